/- Texts of this repository put together: ShQ8, ShS2, ShS3, ShS4, ShC3, ShC5, ShT1, ShQ9, Bg. -/
import Derived.Test.YtiohaeckagjebaaK19e
import Derived.Test.YtiohaeckagjebaaK19d
import Derived.Test.YtiohaeckagjebaaK19c
import Derived.Test.YtiohaeckagjebaaProg
import Derived.Test.YtiohaeckagjebaaK19a

/- Contract: the tree that a list of rules begins with, read by the program. -/
set_option linter.unusedVariables false
set_option linter.unusedSimpArgs false
set_option maxRecDepth 100000
namespace Go.Sh
open Go
def pti (F : Nat → Prop) (p : PT) (b : Nat) : Thing := ⟨fun w => PartAt F w p b, F⟩
def ptsi (F : Nat → Prop) (ks : List PT) (bs : List Nat) : Thing := ⟨fun w => AllPt F w ks bs, F⟩
theorem AllPt.same {F : Nat → Prop} {w w' : World} {ps : List PT} {bs : List Nat} (h : AllPt F w ps bs) (hs : ∀ q, F q → w'.heap[q]? = w.heap[q]?) : AllPt F w' ps bs := ⟨h.1, fun i hi => PartAt.same hs _ _ (h.2 i hi)⟩
theorem AllPt.mono {F E : Nat → Prop} {w : World} {ps : List PT} {bs : List Nat} (h : AllPt F w ps bs) (he : ∀ q, F q → E q) : AllPt E w ps bs := ⟨h.1, fun i hi => PartAt.mono he _ _ (h.2 i hi)⟩
theorem KidsAt.of_all {F E : Nat → Prop} {w : World} {X : Option Addr} (he : ∀ q, F q → E q) : ∀ {ks : List PT} {bs : List Nat} {j : Nat}, (∀ i, i < bs.length → w.cell? ((ad X).add (j + i)) = some (ptrv (bs.getD i 0))) → AllPt F w ks bs → KidsAt E w ks X j := by
  intro ks
  induction ks with
  | nil => intro bs j _ _; simp only [KidsAt]
  | cons k ks ih =>
    intro bs j hc ha
    cases bs with
    | nil => have := ha.1; simp at this
    | cons b bs =>
      simp only [KidsAt]
      refine ⟨⟨b, by simpa using hc 0 (by simp), PartAt.mono he _ _ (by simpa [ptn] using ha.2 0 (by simp))⟩, ih (bs := bs) (fun i hi => ?_) ⟨by have := ha.1; simpa using this, fun i hi => ?_⟩⟩
      · have := hc (i + 1) (by simpa using hi)
        rw [show j + 1 + i = j + (i + 1) from by omega]
        simpa using this
      · have := ha.2 (i + 1) (by simpa using hi)
        simpa [ptn] using this
theorem good_symb {g : Gram} (hg : goodG g = true) {q : Nat} (hq : q < g.rules.length) {i : Nat} (hi : i < (rul g.rules q).2.length) : -4 ≤ (rul g.rules q).2.getD i 0 ∧ (rul g.rules q).2.getD i 0 ≤ 5 ∧ -g.toks ≤ (rul g.rules q).2.getD i 0 ∧ (rul g.rules q).2.getD i 0 ≤ g.nons - 1 := by
  have hn := good_nons hg
  have ht := good_toks hg
  simp only [goodG, Bool.and_eq_true, List.all_eq_true] at hg
  have h1 := hg.2 q (List.mem_range.2 hq)
  simp only [goodR, Bool.and_eq_true, List.all_eq_true] at h1
  have h2 := h1.1.2 _ (getD_mem hi)
  simp only [symB, inB, Bool.and_eq_true, decide_eq_true_eq] at h2
  omega
/-- A node, its row of kids, and the kids, as one tree. -/
theorem tree_of {w : World} {F : Nat → Prop} {b c : Nat} {K : Option Addr} {ks : List PT} {bs : List Nat} {non : Int} {rule a e f t : Nat} (hb : Box w b [.int .i64 non, .int .i64 rule, .int .i64 a, .int .i64 e, .int .i64 f, .int .i64 t, .slice K ks.length c] 93) (hr : Row w 0 86 1 K bs.length c (bs.map ptrv)) (ha : AllPt F w ks bs) :
    PartAt (fun q => q = b ∨ (blk K = some q ∨ F q)) w (.mk non rule a e f t ks) b := by
  have hl := ha.1
  simp only [PartAt]
  refine ⟨by simp, K, c, hb, fun hp => ⟨hr.ptr (by omega), ?_⟩, by have := hr.cap; omega, KidsAt.of_all (fun q hq => .inr (.inr hq)) (fun i hi => ?_) ha⟩
  · have := hr.ptr (show 0 < bs.length by omega)
    exact .inr (.inl (by rw [this]; rfl))
  · rw [Nat.zero_add]
    exact hr.src.cell i _ (by simp [List.getD_eq_getElem?_getD, hi])
end Go.Sh
namespace Go.Proofs.Ytiohaeckagjebaa
open Go Go.Sh Go.RowKit
theorem symbolOf_c {x : Int} {w : World} {k : Value → World → Prop} (hk : k (.int .i64 (IntKind.i64.wrap (-1 - x))) w) : CallK Try.prog 179 [.int .i64 x] k w := by
  refine enter179 ?_
  unfold S179
  simp only [go_sem, Nat.reduceEqDiff]
  exact hk
abbrev readF (bR bG bW bF : Nat) : Value := .func (.func 178) #[] #[ptrv bR, ptrv bG, ptrv bW, ptrv bF]
/-- What the closure holds. -/
abbrev held4 (gm : Gram) (tree : List Int) (X Y : Option Addr) (c cy bR bG bW bF : Nat) (W : Option Addr) (cw : Nat) (ws : List Int) : List Thing :=
  [bx bR [.slice X tree.length c] 22, bx bG [.int .i64 gm.nons, .int .i64 gm.toks, .slice Y gm.rules.length cy] 37, bx bW [.slice W ws.length cw] 22, bx bF [readF bR bG bW bF] 181, ows W cw ws]

theorem read_c {gm : Gram} {tree : List Int} {X Y : Option Addr} {c cy bR bG bW bF : Nat} (hg : goodG gm = true) (ht : tree.length ≤ 60) {F : Nat → Prop} {w0 : World} (hx : Ints w0 X tree) (hy : RulesF F w0 Y gm.rules) :
    ∀ (fu : Nat) {w : World} {M : List Thing} {W : Option Addr} {cw : Nat} {ws : List Int} {non : Int} {a : Nat} {k : Value → World → Prop}, Apt w0 w (held4 gm tree X Y c cy bR bG bW bF W cw ws ++ M) → tree.length - a ≤ fu → ws.length + 4 * (tree.length - a) ≤ 1000 →
    (readT gm.rules tree fu non a ws = none → ∀ w' v W' cw' ws', Apt w0 w' (held4 gm tree X Y c cy bR bG bW bF W' cw' ws' ++ M) → k (.tuple #[v, .bool false]) w') →
    (∀ p ws', readT gm.rules tree fu non a ws = some (p, ws') → ∀ w' b E W' cw', Apt w0 w' (held4 gm tree X Y c cy bR bG bW bF W' cw' ws' ++ pti E p b :: M) → k (.tuple #[ptrv b, .bool true]) w') →
    CallK Try.prog 178 [.int .i64 non, .int .i64 a, ptrv bR, ptrv bG, ptrv bW, ptrv bF] k w := by
  have hr16 := good_len hg
  have hxl := hx.le
  intro fu
  induction fu with
  | zero =>
    intro w M W cw ws non a k H hf hb hn hs
    refine enter178 ?_
    unfold S178
    have H := H.drew
    refine ⟨fun w' => Gr w.drew w', Gr.refl _, ?_⟩
    rw [rdG one22 (H.box 0 rfl) rfl]
    simp only [go_sem, Nat.reduceEqDiff]
    simp only [show (tree.length : Int) ≤ a from by omega, decide_true, go_sem, Nat.reduceEqDiff]
    exact ⟨Gr.refl _, hn rfl _ _ _ _ _ H⟩
  | succ fu ih =>
    intro w M W cw ws non a k H hf hb hn hs
    refine enter178 ?_
    unfold S178
    have H := H.drew
    refine ⟨fun w' => Gr w.drew w', Gr.refl _, ?_⟩
    rw [rdG one22 (H.box 0 rfl) rfl]
    simp only [go_sem, Nat.reduceEqDiff]
    by_cases hlt : a < tree.length
    case neg =>
      simp only [show (tree.length : Int) ≤ a from by omega, decide_true, go_sem, Nat.reduceEqDiff]
      exact ⟨Gr.refl _, hn (readT_no (okT_lt hlt)) _ _ _ _ _ H⟩
    simp only [show ¬ ((tree.length : Int) ≤ a) from by omega, decide_false, go_sem, Nat.reduceEqDiff]
    rw [rdG one22 (H.box 0 rfl) rfl, ixn22 hx.ptr hlt, ldS3 (fun w' hw' => Gr.cell hw' ((hx.gr H.gr).cell a hlt))]
    rw [rdG one35 (H.box 1 rfl) rfl]
    simp only [go_sem, Nat.reduceEqDiff]
    rw [i64_of (by omega) (by omega)]
    refine in_c ?_
    refine ⟨Gr.refl _, ?_⟩
    by_cases hin : inB (tree.getD a 0) 0 ((gm.rules.length : Int) - 1) = true
    case neg =>
      have hin := Bool.eq_false_iff.2 hin
      simp only [hin, Bool.not_false, go_sem, Nat.reduceEqDiff]
      exact hn (readT_no (okT_in hin)) _ _ _ _ _ H
    obtain ⟨q, hqe, hq⟩ : ∃ q : Nat, tree.getD a 0 = q ∧ q < gm.rules.length := by
      simp only [inB, Bool.and_eq_true, decide_eq_true_eq] at hin
      exact ⟨(tree.getD a 0).toNat, by omega, by omega⟩
    simp only [hin, Bool.not_true, go_sem, Nat.reduceEqDiff]
    obtain ⟨Z, cz, h1, h2, h3, h4⟩ := hy.row q hq
    rw [rdG one35 (H.box 1 rfl) rfl, rdG one22 (H.box 0 rfl) rfl, ixn22 hx.ptr hlt, ldS3 (fun w' hw' => Gr.cell hw' ((hx.gr H.gr).cell a hlt)), hqe, ixn35 hy.ptr hq, fa77_0, add_zero', ldS3 (fun w' hw' => Gr.cell hw' (H.gr.cell h1))]
    simp only [go_sem, Nat.reduceEqDiff]
    by_cases hne : (rul gm.rules q).1 = non
    case neg =>
      simp only [hne, decide_false, Bool.not_false, go_sem, Nat.reduceEqDiff]
      exact hn (readT_no (okT_ne hqe hne)) _ _ _ _ _ H
    simp only [hne, decide_true, Bool.not_true, go_sem, Nat.reduceEqDiff]
    have H := H.drew
    rw [ldB22 (H.box 0 rfl) rfl, ixn22 hx.ptr hlt, ld3 ((hx.gr H.gr).cell a hlt), hqe, ldB22 (H.box 2 rfl) rfl]
    simp only [go_sem, Nat.reduceEqDiff]
    rw [i64_of (by omega) (by omega), bd93 (cells := #[.int .i64 non, .int .i64 q, .int .i64 a, .int .i64 ((a : Int) + 1), .int .i64 ws.length, .int .i64 0, .slice none 0 0]) rfl]
    refine boxH H fun bN w1 H => ?_
    have H := ((H.insert 5).addNil 86 1).insert 6
    have H := (H.add (Gr.refl _) (ptsi (fun _ => False) [] []) (fun q h => h.elim) (fun q h => h.elim) fun _ _ => ⟨rfl, fun i hi => by simp at hi⟩).insert 7
    simp only [List.nil_append, List.cons_append, List.take_succ_cons, List.drop_succ_cons, List.take_zero, List.drop_zero, List.take_nil, List.drop_nil] at H
    have H := H.drew
    rw [ldB35 (H.box 1 rfl) rfl]
    simp only [go_sem, Nat.reduceEqDiff]
    rw [ldB3 (H.box 5 rfl) rfl, ixn35 hy.ptr hq, fa77_1, add_add, ld22 (H.gr.cell h2)]
    simp only [go_sem, Nat.reduceEqDiff]
    have hread := fun w => readT_of (f := fu) (w := w) (okT_of hlt hin hqe hne) hqe
    have hsym := fun i => @good_symb gm hg q hq i
    have hR4 := good_rule hg q hq
    rw [hread ws] at hn hs
    clear h1 h2 hread hne
    generalize (rul gm.rules q).2 = R at *
    refine loop_to R.length 0 (fun i f w' => i ≤ R.length ∧ f 66 = .int .i64 i ∧ ∃ (ks : List PT) (cur : List Int) (W : Option Addr) (cw : Nat) (K : Option Addr) (ck : Nat) (kbs : List Nat) (E : Nat → Prop) (e : Nat), e = a + 1 + (PT.partsL ks).length ∧ e ≤ tree.length ∧ cur.length ≤ ws.length + i + 4 * (PT.partsL ks).length ∧ readR (readT gm.rules tree fu) (R.drop i) e cur ks = readR (readT gm.rules tree fu) R (a + 1) ws [] ∧
      Apt w0 w' (held4 gm tree X Y c cy bR bG bW bF W cw cur ++ bx bN [.int .i64 non, .int .i64 q, .int .i64 a, .int .i64 e, .int .i64 ws.length, .int .i64 0, .slice K ks.length ck] 93 :: rwi 86 1 K ks.length ck (kbs.map ptrv) :: ptsi E ks kbs :: M))
      ⟨Nat.zero_le _, rfl, [], ws, W, cw, none, 0, [], fun _ => False, a + 1, by simp [PT.partsL], hlt, by simp, rfl, H⟩ ?_
    rintro i f w2 N hag ⟨hi, h66, ks, cur, W2, cw2, K, ck, kbs, E, e, he, hel, hcl, hE, H⟩ hN
    have f64 : f 64 = .slice Z R.length cz := hag 64 (by decide)
    have f65 : f 65 = .int .i64 R.length := hag 65 (by decide)
    have f4 : f 4 = ptrv bW := hag 4 (by decide)
    have f5 : f 5 = ptrv bF := hag 5 (by decide)
    have f10 : f 10 = ptrv bN := hag 10 (by decide)
    simp only [f64, f65, f4, f5, f10, h66, go_sem, Nat.reduceEqDiff]
    have hkbl : kbs.length = ks.length := (show AllPt E w2 ks kbs from H.get 7 rfl).1
    have hkl := kids_le ks
    by_cases hlt2 : i < R.length
    case neg =>
      simp only [show ¬ (i : Int) < R.length from by omega, decide_false, go_sem, Nat.reduceEqDiff]
      rw [List.drop_eq_nil_of_le (by omega), readR] at hE
      rw [← hE] at hs
      rw [ldB22 (H.box 2 rfl) rfl]
      simp only [go_sem, Nat.reduceEqDiff]
      refine storeH H 5 rfl sz3 rfl rfl rfl fun w3 H => ?_
      have H := H.both 6 7 (by decide) rfl rfl
      have H := H.both 5 6 (by decide) rfl rfl
      have H := H.weaken 5 (b := pti (fun q => q = bN ∨ (blk K = some q ∨ E q)) (.mk non q a e ws.length cur.length ks) bN) rfl (fun q hq => hq) (fun w' _ hp => tree_of hp.1 (by rw [hkbl]; exact hp.2.1) hp.2.2) (fun w' w'' hh hp => PartAt.same hh _ _ hp)
      exact hs _ _ rfl _ _ _ _ _ H
    simp only [show (i : Int) < R.length from by omega, decide_true, go_sem, Nat.reduceEqDiff]
    rw [drop_getD hlt2] at hE
    have hRl := h4.is.le
    rw [ixn22 h4.is.ptr hlt2, ld3 ((h4.is.gr H.gr).cell i hlt2)]
    obtain ⟨s1, s2, _⟩ := hsym i hlt2
    by_cases hneg : R.getD i 0 < 0
    · simp only [hneg, decide_true, go_sem, Nat.reduceEqDiff]
      rw [readR_tok hneg] at hE
      have H := H.drew
      refine ⟨fun w' => Gr w2.drew w', Gr.refl _, ?_⟩
      rw [rdG one22 (H.box 2 rfl) rfl]
      refine symbolOf_c ?_
      refine ⟨Gr.refl _, ?_⟩
      rw [i64_of (by omega) (by omega)]
      refine bs22 [.int .i64 (-1 - R.getD i 0)] (by decide) (by simp [Instr.fill, madeCells, Value.cells, rng1]) rfl fun b3 w3 hb3 hb3' g3 hB3 hr3 => ?_
      refine ⟨g3, ?_⟩
      have H := H.step g3
      refine apH H 4 rfl (ys := [-1 - R.getD i 0]) (Own.ints (show Own 3 w3 w2.drew.heap.size (some ⟨b3, 0, none⟩) 1 [-1 - R.getD i 0] from hr3 _ (Nat.le_refl _))) rfl rfl (by simp; omega) fun X' c' w4 H => ?_
      refine storeH H 2 rfl sz22 rfl rfl rfl fun w5 H => ?_
      rw [i64_of (by omega) (by omega)]
      exact hN _ _ hlt2 ⟨hlt2, rfl, ks, cur ++ [-1 - R.getD i 0], X', c', K, ck, kbs, E, e, he, hel, by simp; omega, hE, H⟩
    · simp only [hneg, decide_false, go_sem, Nat.reduceEqDiff]
      have H := H.drew
      rw [ldB181 (H.box 3 rfl) rfl, ldB3 (H.box 5 rfl) rfl]
      refine callVc (caps := [ptrv bR, ptrv bG, ptrv bW, ptrv bF]) ?_
      refine ih H (by omega) (by omega) (fun hz w3 v W3 cw3 ws3 H => ?_) fun kid ws3 hz w3 b E' W3 cw3 H => ?_
      · simp only [go_sem, Nat.reduceEqDiff]
        have hnone : readR (readT gm.rules tree fu) R (a + 1) ws [] = none := by
          rw [← hE, readR, if_neg hneg, hz]
        rw [hnone] at hn
        exact hn rfl _ _ _ _ _ (((H.erase 5).erase 5).erase 5)
      · simp only [go_sem, Nat.reduceEqDiff]
        have hkl2 := readT_laid _ _ _ _ _ _ _ _ hz
        have hkw := readT_words (good_rule hg) _ _ _ _ _ _ hz
        have hkf := readT_le hz
        rw [ldB91 (H.box 6 rfl) rfl]
        refine bs91 [ptrv b] (by decide) (by simp [Instr.fill, madeCells, Value.cells, rng1]) rfl fun b4 w4 hb4 hb4' g4 hB4 hr4 => ?_
        have H := H.step g4
        refine appendH H 7 rfl u91 inf86 rfl (by decide) (Row.src (hr4 _ (Nat.le_refl _))) rfl (ptrs_one [b]) (by omega) (by omega) fun X' c' w5 H => ?_
        refine storeH H 6 rfl sz91 rfl rfl rfl fun w6 H => ?_
        obtain ⟨Xk, ck', hbk, _⟩ := (show PartAt E' w6 kid b from H.get 5 rfl).box
        rw [ldB3 hbk rfl]
        refine storeH H 6 rfl sz3 rfl rfl rfl fun w7 H => ?_
        have H := H.both 8 5 (by decide) rfl rfl
        have H := H.weaken 7 (b := ptsi (fun q => E q ∨ E' q) (ks ++ [kid]) (kbs ++ [b])) rfl (fun q hq => hq) (fun w' _ hp => (AllPt.mono hp.1 fun q h => .inl h).append (AllPt.one (PartAt.mono (fun q h => .inr h) _ _ hp.2))) (fun w' w'' hh hp => AllPt.same hp hh)
        rw [i64_of (by omega) (by omega)]
        refine hN _ _ hlt2 ⟨hlt2, rfl, ks ++ [kid], ws3, W3, cw3, X', c', kbs ++ [b], fun q => E q ∨ E' q, kid.fin, ?_, hkf, ?_, ?_, ?_⟩
        · rw [partsL_append]
          simp only [PT.partsL, List.append_nil, List.length_append]
          omega
        · rw [partsL_append]
          simp only [PT.partsL, List.append_nil, List.length_append]
          omega
        · rw [← hE, readR, if_neg hneg, hz]
        · rw [List.map_append, List.length_append]
          exact H
end Go.Proofs.Ytiohaeckagjebaa

/- Contracts: what derives a part of a word, by the program. -/
set_option linter.unusedVariables false
set_option linter.unusedSimpArgs false
set_option maxRecDepth 100000
namespace Go.Sh
open Go
def cellsT (T : Tab) : List Value := (List.range 726).map fun p => .bool (cellT T p)
theorem cellsT_length (T : Tab) : (cellsT T).length = 726 := by simp [cellsT]
theorem cellT_at {T : Tab} {x i j : Nat} (hi : i < 11) (hj : j < 11) : cellT T (x * 121 + i * 11 + j) = T x i j := by
  have e1 : (x * 121 + i * 11 + j) / 121 = x := by omega
  have e2 : (x * 121 + i * 11 + j) / 11 % 11 = i := by omega
  have e3 : (x * 121 + i * 11 + j) % 11 = j := by omega
  simp [cellT, e1, e2, e3]
theorem cellsT_at {T : Tab} {v : Value} {x i j : Nat} (hx : x < 6) (hi : i < 11) (hj : j < 11) : (v :: cellsT T)[x * 121 + i * 11 + j + 1]? = some (.bool (T x i j)) := by
  rw [List.getElem?_cons_succ]
  simp only [cellsT, List.getElem?_map]
  rw [List.getElem?_range (by omega)]
  simp only [Option.map_some, cellT_at hi hj]
theorem cellsT_put {T : Tab} {v : Value} {x i j : Nat} (hx : x < 6) (hi : i < 11) (hj : j < 11) : (v :: cellsT T).set (x * 121 + i * 11 + j + 1) (.bool true) = v :: cellsT (T.put x i j) := by
  rw [List.set_cons_succ]
  congr 1
  refine List.ext_getElem? fun p => ?_
  rw [List.getElem?_set]
  by_cases hp : x * 121 + i * 11 + j = p
  · subst hp
    rw [if_pos rfl, if_pos (by rw [cellsT_length]; omega)]
    simp only [cellsT, List.getElem?_map]
    rw [List.getElem?_range (by omega)]
    simp only [Option.map_some, cellT_at hi hj]
    simp [Tab.put]
  · rw [if_neg hp]
    simp only [cellsT, List.getElem?_map]
    by_cases hlt : p < 726
    · rw [List.getElem?_range hlt]
      simp only [Option.map_some, cellT, Tab.put]
      have : ¬ (p / 121 = x ∧ p / 11 % 11 = i ∧ p % 11 = j) := by omega
      rw [if_neg this]
    · rw [List.getElem?_eq_none (by simp; omega)]
      rfl
theorem take_put_drop {l : List Value} {m : Nat} {v : Value} (h : m < l.length) : l.take m ++ [v] ++ l.drop (m + 1) = l.set m v := by
  rw [List.set_eq_take_append_cons_drop, if_pos h]
  simp
end Go.Sh
namespace Go.Proofs.Ytiohaeckagjebaa
open Go Go.Sh Go.RowKit

theorem sequence_c {ws : List Int} (hl : ws.length ≤ 10) (hw : ∀ t ∈ ws, 0 ≤ t ∧ t ≤ 100) : ∀ (right : List Int) {w : World} {b : Nat} {X Y : Option Addr} {cx cy : Nat} {T : Tab} {i j : Nat} {k : Value → World → Prop}, Box w b (.slice X ws.length cx :: cellsT T) 111 → Ints w X ws → Ints w Y right → right.length ≤ cy → (∀ x ∈ right, x < 6 ∧ -100 ≤ x) → i ≤ j → j ≤ ws.length → k (.bool (fitsT T ws right i j)) w →
    CallK Try.prog 149 [ptrv b, .slice Y right.length cy, .int .i64 i, .int .i64 j] k w := by
  intro right
  induction right with
  | nil =>
    intro w b X Y cx cy T i j k hB hX hY hcy hr hi hj hk
    refine enter149 ?_
    unfold S149
    simp only [go_sem, List.length_nil]
    simp only [Int.natCast_zero, decide_true, go_sem, Nat.reduceEqDiff, Int.natCast_inj]
    exact hk
  | cons x right ih =>
    intro w b X Y cx cy T i j k hB hX hY hcy hr hi hj hk
    refine enter149 ?_
    unfold S149
    simp only [go_sem, List.length_cons]
    simp only [show ¬ (((right.length + 1 : Nat) : Int) = 0) from by omega, decide_false, go_sem, Nat.reduceEqDiff]
    have hx := hr x (List.mem_cons_self ..)
    have hr' : ∀ y ∈ right, y < 6 ∧ -100 ≤ y := fun y hy => hr y (List.mem_cons_of_mem _ hy)
    simp only [List.length_cons] at hcy
    have hY' : Ints w (sub Y 1 cy 1) right := by
      have := hY.sub (l := 1) (c := cy) (by simp) (by simp; omega) (right.length)
      simpa using this
    rw [ix22_0 (fun _ => hY.ptr (by simp)) (by omega), ld3 (hY.cell 0 (by simp))]
    simp only [List.getD_cons_zero, go_sem, Nat.reduceEqDiff]
    by_cases hneg : x < 0
    · simp only [hneg, decide_true, go_sem, Nat.reduceEqDiff]
      rw [fits_tok hneg] at hk
      by_cases hij : i < j
      case neg =>
        simp only [show ¬ ((i : Int) < j) from by omega, decide_false, go_sem, Nat.reduceEqDiff]
        simpa only [hij, decide_false, Bool.false_and] using hk
      simp only [show ((i : Int) < j) from by omega, decide_true, go_sem, Nat.reduceEqDiff]
      rw [decide_eq_true hij, Bool.true_and] at hk
      rw [ldB22 hB rfl, ixn22 hX.ptr (by omega), ld3 (hX.cell i (by omega))]
      refine symbolOf_c ?_
      have hwi := hw _ (getD_mem (show i < ws.length by omega))
      rw [i64_of (by omega) (by omega)]
      simp only [go_sem, Nat.reduceEqDiff]
      by_cases he : ws.getD i 0 = -1 - x
      case neg =>
        simp only [show ¬ (-1 - ws.getD i 0 = x) from by omega, decide_false, go_sem, Nat.reduceEqDiff]
        simpa only [he, decide_false, Bool.false_and] using hk
      simp only [show (-1 - ws.getD i 0 = x) from by omega, decide_true, go_sem, Nat.reduceEqDiff]
      rw [decide_eq_true he, Bool.true_and] at hk
      rw [sll22 (by decide) (by omega), i64_of (by omega) (by omega)]
      rw [show (1 : Int).toNat = 1 from rfl, Nat.add_sub_cancel]
      refine ih (i := i + 1) hB hX hY' (by omega) hr' (by omega) hj ?_
      exact hk
    · simp only [hneg, decide_false, go_sem, Nat.reduceEqDiff]
      rw [fits_non hneg] at hk
      obtain ⟨x, rfl⟩ : ∃ x' : Nat, x = x' := ⟨x.toNat, by omega⟩
      rw [Int.toNat_natCast] at hk
      refine loop_to (j + 1) i (fun m f w' => i ≤ m ∧ m ≤ j + 1 ∧ f 10 = .int .i64 m ∧ (∀ m', i ≤ m' → m' < m → (T x i m' && fitsT T ws right m' j) = false) ∧ w' = w) ⟨Nat.le_refl _, by omega, rfl, fun m' h1 h2 => by omega, rfl⟩ ?_
      rintro m f w' N hag ⟨hm1, hm2, h10, hno, rfl⟩ hN
      have f0 : f 0 = ptrv b := hag 0 (by decide)
      have f1 : f 1 = .slice Y (right.length + 1) cy := hag 1 (by decide)
      have f2 : f 2 = .int .i64 i := hag 2 (by decide)
      have f3 : f 3 = .int .i64 j := hag 3 (by decide)
      have f9 : f 9 = .int .i64 (x : Nat) := hag 9 (by decide)
      simp only [f0, f1, f2, f3, f9, h10, go_sem, Nat.reduceEqDiff]
      by_cases hle : m ≤ j
      case neg =>
        simp only [show ¬ ((m : Int) ≤ j) from by omega, decide_false, go_sem, Nat.reduceEqDiff]
        rw [any_upto (fun m' h1 h2 => hno m' h1 (by omega))] at hk
        exact hk
      simp only [show ((m : Int) ≤ j) from by omega, decide_true, go_sem, Nat.reduceEqDiff]
      rw [ixa109 (by omega) (by omega), ixa108 (by omega) (by omega), ixa107 (by omega) (by omega)]
      simp only [Int.toNat_natCast, go_sem, Nat.reduceEqDiff]
      rw [ldB4 (off := 0 + 1 + x * 121 + i * 11 + m) hB (by rw [show 0 + 1 + x * 121 + i * 11 + m = x * 121 + i * 11 + m + 1 from by omega]; exact cellsT_at (by omega) (by omega) (by omega))]
      cases hs : T x i m
      · simp only [go_sem, Nat.reduceEqDiff]
        rw [i64_of (by omega) (by omega)]
        exact hN _ _ (by omega) ⟨by omega, by omega, rfl, fun m' h1 h2 => by
          by_cases e : m' = m
          · rw [e, hs, Bool.false_and]
          · exact hno m' h1 (by omega), rfl⟩
      · simp only [go_sem, Nat.reduceEqDiff]
        rw [sll22 (by decide) (by omega)]
        rw [show (1 : Int).toNat = 1 from rfl, Nat.add_sub_cancel]
        refine ih hB hX hY' (by omega) hr' (by omega) hj ?_
        cases hf : fitsT T ws right m j
        · simp only [go_sem, Nat.reduceEqDiff]
          rw [i64_of (by omega) (by omega)]
          exact hN _ _ (by omega) ⟨by omega, by omega, rfl, fun m' h1 h2 => by
            by_cases e : m' = m
            · rw [e, hf, Bool.and_false]
            · exact hno m' h1 (by omega), rfl⟩
        · simp only [go_sem, Nat.reduceEqDiff]
          rw [any_at hm1 hle (by rw [hs, hf]; rfl)] at hk
          exact hk
end Go.Proofs.Ytiohaeckagjebaa

/- Contracts: the reference's table of what derives what. -/
set_option linter.unusedVariables false
set_option linter.unusedSimpArgs false
set_option maxRecDepth 100000
namespace Go.Sh
open Go
theorem madeCells_one (v : Value) (n : Nat) : (madeCells #[v] (n * 1)).toList = List.replicate n v := by
  rw [Nat.mul_one]
  refine List.ext_getElem? fun i => ?_
  unfold madeCells
  by_cases h : i < n
  · simp [h, Nat.mod_one]
  · rw [List.getElem?_eq_none (by simp; omega), List.getElem?_eq_none (by simp; omega)]
theorem rowB_none (n x : Nat) : rowB noTab n x = List.replicate (n * n) (.bool false) := by
  refine List.ext_getElem? fun i => ?_
  by_cases h : i < n * n
  · simp [rowB, h, noTab]
  · rw [List.getElem?_eq_none (by rw [rowB_length]; omega), List.getElem?_eq_none (by simp; omega)]
theorem set_td {α : Type} {xs ys : List α} {i : Nat} {a : α} (h : i < ys.length) (hl : xs.length = ys.length) (ha : xs[i]? = some a) : (xs.take i ++ ys.drop i).set i a = xs.take (i + 1) ++ ys.drop (i + 1) := by
  have hi : i < xs.length := by omega
  obtain rfl : xs[i] = a := by simpa [hi] using ha
  rw [List.take_succ_eq_append_getElem hi, List.set_append_right _ _ (by simp; omega)]
  rw [show i - (xs.take i).length = 0 from by simp; omega, List.drop_eq_getElem_cons h, List.set_cons_zero, List.append_assoc]
  rfl
def tabSt (rs : List RuleL) (ws : List Int) (s : Tab × Bool) : Prop := if s.2 = true then ∀ U, Span rs ws s.1 U → Span rs ws noTab U else Span rs ws noTab s.1
theorem tabSt_next {rs : List RuleL} {ws : List Int} {T : Tab} (h : tabSt rs ws (T, true)) : tabSt rs ws (passT rs ws (T, false)) := by
  unfold tabSt at h ⊢
  rw [if_pos rfl] at h
  cases hc : (passT rs ws (T, false)).2
  · rw [if_neg (by decide)]
    exact h _ (.done hc)
  · rw [if_pos rfl]
    exact fun U hU => h U (.more hc hU)
theorem good_right {g : Gram} (hg : goodG g = true) {q : Nat} (hq : q < g.rules.length) : ∀ x ∈ (rul g.rules q).2, x < g.nons ∧ -100 ≤ x := fun x hx => by
  obtain ⟨i, hi, rfl⟩ := List.getElem_of_mem hx
  have := good_symb hg hq hi
  rw [List.getD_eq_getElem?_getD, List.getElem?_eq_getElem hi] at this
  simp only [Option.getD_some] at this
  omega
theorem good_left {g : Gram} (hg : goodG g = true) {q : Nat} (hq : q < g.rules.length) : 0 ≤ (rul g.rules q).1 ∧ (rul g.rules q).1 ≤ g.nons - 1 := by
  simp only [goodG, Bool.and_eq_true, List.all_eq_true] at hg
  have h1 := hg.2 q (List.mem_range.2 hq)
  simp only [goodR, Bool.and_eq_true, inB, decide_eq_true_eq] at h1
  exact h1.1.1.1
theorem good_left6 {g : Gram} (hg : goodG g = true) : ∀ r ∈ g.rules, r.1.toNat < 6 := fun r hr => by
  obtain ⟨i, hi, rfl⟩ := List.getElem_of_mem hr
  have := good_left hg hi
  have := good_nons hg
  rw [rul_eq hi] at *
  omega
end Go.Sh
namespace Go.Proofs.Ytiohaeckagjebaa
open Go Go.Sh Go.RowKit
theorem inf4' : Inf Try.prog 4 (.bool false) 1 1 := inf_of (by kernel_rfl)

theorem l4Table_c {F : Nat → Prop} {w : World} {v : Value} {gm : Gram} {X : Option Addr} {cx n0 : Nat} {ws : List Int} (hv : GramV F w v gm) (hg : goodG gm = true) (hX : Ints w X ws) (hn : n0 = ws.length) (hl : ws.length ≤ 10) {k : Value → World → Prop}
    (hk : ∀ w' U c nons, Gr w w' → gm.nons = (nons : Nat) → TabS w' U nons (ws.length + 1) (spanT gm.rules ws) → k (.slice U nons c) w') :
    CallK Try.prog 148 [v, .slice X n0 cx] k w := by
  subst hn
  obtain ⟨Y, cy, rfl, hc, hy⟩ := hv
  have hn6 := good_nons hg
  have hr16 := good_len hg
  have hleft6 := good_left6 hg
  obtain ⟨nons, hnn⟩ : ∃ n : Nat, gm.nons = n := ⟨gm.nons.toNat, by omega⟩
  refine enter148 ?_
  unfold S148
  have H := Apt.nil w
  refine boxH H fun b1 w1 H => ?_
  rw [hnn] at H
  simp only [go_sem, Nat.reduceEqDiff]
  rw [ldB3 (H.box 0 rfl) rfl]
  rw [i64_of (by omega) (by omega)]
  refine makeH H u162 inf161 (by omega) (by omega) fun b2 w2 H => ?_
  rw [show (Value.slice none 0 0).cells = #[.slice none 0 0] from rfl, madeCells_one] at H
  have H := H.nilVV 1 4 rfl
  simp only [List.nil_append, List.cons_append, List.set_cons_zero, List.set_cons_succ] at H
  simp only [go_sem, Nat.reduceEqDiff]
  generalize hN : ws.length + 1 = n at *
  have hNi : ((ws.length : Int) + 1) = (n : Int) := by omega
  rw [hNi]
  have hnn11 : n * n ≤ 11 * 11 := Nat.mul_le_mul (by omega) (by omega)
  have hrl : (rowsB noTab nons n).length = nons := rowsB_length _ _ _
  refine loop_to nons 0 (fun i f w' => i ≤ nons ∧ f 21 = .int .i64 i ∧ ∃ (ps : Nat → Option Addr × Nat), Apt w w' [bx b1 [.int .i64 nons, .int .i64 gm.toks, .slice Y gm.rules.length cy] 37, vvi 161 4 (some ⟨b2, 0, none⟩) nons ((rowsB noTab nons n).take i ++ (List.replicate nons []).drop i) ps])
    ⟨Nat.zero_le _, rfl, _, by rw [List.take_zero, List.drop_zero, List.nil_append]; exact H⟩ ?_
  rintro i f w3 N hag ⟨hi, h21, ps, H⟩ hN'
  have f20 : f 20 = .int .i64 nons := hag 20 (by decide)
  have f5 : f 5 = .int .i64 n := hag 5 (by decide)
  have f6 : f 6 = .slice (some ⟨b2, 0, none⟩) nons nons := hag 6 (by decide)
  have f2 : f 2 = ptrv b1 := hag 2 (by decide)
  have f1 : f 1 = .slice X ws.length cx := hag 1 (by decide)
  simp only [f20, f5, f6, h21, go_sem, Nat.reduceEqDiff]
  by_cases hlt : i < nons
  · simp only [show (i : Int) < nons from by omega, decide_true, go_sem, Nat.reduceEqDiff]
    rw [show (n : Int) * (n : Int) = ((n * n : Nat) : Int) from by push_cast; rfl, i64_of (by omega) (by omega)]
    refine makeH H (n := n * n) u161 inf4' (by omega) (by omega) fun b3 w4 H => ?_
    rw [show (Value.bool false).cells = #[.bool false] from rfl, madeCells_one, ← rowB_none n i] at H
    rw [ixn162 (fun _ => rfl) hlt]
    refine setRowVV H 1 2 i (by decide) rfl rfl (by rw [rowB_length]) (by decide) sz161 (by simp; omega) fun w5 ps' H => ?_
    have H := H.erase 2
    rw [set_td (by simp; omega) (by simp [hrl]) (by simp [rowsB, hlt])] at H
    rw [i64_of (by omega) (by omega)]
    exact hN' _ _ hlt ⟨hlt, rfl, ps', H⟩
  have hin : i = nons := by omega
  simp only [show ¬ ((i : Int) < nons) from by omega, decide_false, go_sem, Nat.reduceEqDiff]
  rw [hin, List.drop_eq_nil_of_le (by simp), List.append_nil, List.take_of_length_le (by rw [hrl]; exact Nat.le_refl _)] at H
  clear hN' hin h21 hi hlt
  refine loop_ghost (fun (s : Tab × Bool) f w' => tabSt gm.rules ws s ∧ f 8 = .bool s.2 ∧ ∃ (ps : Nat → Option Addr × Nat), Apt w w' [bx b1 [.int .i64 nons, .int .i64 gm.toks, .slice Y gm.rules.length cy] 37, vvi 161 4 (some ⟨b2, 0, none⟩) nons (rowsB s.1 nons n) ps]) (fun s => if s.2 = true then openT s.1 + 1 else 0) (noTab, true)
    ⟨by unfold tabSt; rw [if_pos rfl]; exact fun U h => h, rfl, ps, H⟩ ?_
  rintro ⟨T, more⟩ f7 w6 N2 hag2 ⟨hst, h8, ps, H⟩ hN2
  have f2' : f7 2 = ptrv b1 := (hag2 2 (by decide)).trans f2
  have f6' : f7 6 = .slice (some ⟨b2, 0, none⟩) nons nons := (hag2 6 (by decide)).trans f6
  have f5' : f7 5 = .int .i64 n := (hag2 5 (by decide)).trans f5
  have f1' : f7 1 = .slice X ws.length cx := (hag2 1 (by decide)).trans f1
  simp only [h8, f2', go_sem, Nat.reduceEqDiff]
  cases more
  · simp only [go_sem, Nat.reduceEqDiff]
    rw [f6']
    have hsp : T = spanT gm.rules ws := by
      unfold tabSt at hst
      rw [if_neg Bool.false_ne_true] at hst
      exact hst.eq
    rw [← hsp] at hk
    exact hk _ _ nons _ H.gr hnn ((H.vv 1 rfl).tab (by omega))
  simp only [go_sem, Nat.reduceEqDiff]
  rw [ldB35 (H.box 0 rfl) rfl]
  simp only [go_sem, Nat.reduceEqDiff]
  refine loop_to gm.rules.length 0 (fun q f w' => q ≤ gm.rules.length ∧ f 36 = .int .i64 q ∧ f 8 = .bool ((gm.rules.take q).foldl (ruleT ws) (T, false)).2 ∧ ∃ (ps : Nat → Option Addr × Nat), Apt w w' [bx b1 [.int .i64 nons, .int .i64 gm.toks, .slice Y gm.rules.length cy] 37, vvi 161 4 (some ⟨b2, 0, none⟩) nons (rowsB ((gm.rules.take q).foldl (ruleT ws) (T, false)).1 nons n) ps])
    ⟨Nat.zero_le _, rfl, rfl, ps, H⟩ ?_
  rintro q g1 w7 N3 hag3 ⟨hq, h36, h8', ps, H⟩ hN3
  have e34 : g1 34 = .slice Y gm.rules.length cy := hag3 34 (by decide)
  have e35 : g1 35 = .int .i64 gm.rules.length := hag3 35 (by decide)
  have e5 : g1 5 = .int .i64 n := (hag3 5 (by decide)).trans f5'
  have e6 : g1 6 = .slice (some ⟨b2, 0, none⟩) nons nons := (hag3 6 (by decide)).trans f6'
  have e1 : g1 1 = .slice X ws.length cx := (hag3 1 (by decide)).trans f1'
  simp only [e34, e35, h36, go_sem, Nat.reduceEqDiff]
  by_cases hlq : q < gm.rules.length
  case neg =>
    simp only [show ¬ ((q : Int) < gm.rules.length) from by omega, decide_false, go_sem, Nat.reduceEqDiff]
    rw [List.take_of_length_le (by omega)] at h8' H
    have hinc := passT_inc hleft6 hl (T, false)
    refine hN2 (passT gm.rules ws (T, false)) _ _ ⟨tabSt_next hst, h8', ps, H⟩ ?_
    rw [if_pos rfl]
    rcases hinc with he | ⟨h1, h2⟩
    · rw [he, if_neg Bool.false_ne_true]
      omega
    · rw [if_pos h1]
      dsimp only at h2 ⊢
      omega
  simp only [show ((q : Int) < gm.rules.length) from by omega, decide_true, go_sem, Nat.reduceEqDiff]
  obtain ⟨Z, cz, t1, t2, t3, t4⟩ := hy.row q hlq
  have hleft := good_left hg hlq
  have hright := good_right hg hlq
  have hR4 := good_rule hg q hlq
  generalize hr : rul gm.rules q = r at *
  obtain ⟨xl, hxl⟩ : ∃ x : Nat, r.1 = x := ⟨r.1.toNat, by omega⟩
  rw [hxl] at t1 hleft
  rw [ixn35 hy.ptr hlq, ld_agg agg77 sz77 (cs := [.int .i64 xl, .slice Z r.2.length cz]) rfl (fun j hj => by
    match j, hj with
    | 0, _ => rw [add_add, Nat.add_zero]; exact H.gr.cell t1
    | 1, _ => rw [add_add]; exact H.gr.cell t2)]
  refine allocH H inf77 fun b3 w8 H => ?_
  refine storeH H 2 rfl sz77 rfl rfl rfl fun w9 H => ?_
  simp only [List.nil_append, List.cons_append, List.set_cons_zero, List.set_cons_succ] at H
  generalize hs0 : (gm.rules.take q).foldl (ruleT ws) (T, false) = s0 at *
  refine loop_to n 0 (fun a f w' => a ≤ n ∧ f 11 = .int .i64 a ∧ f 8 = .bool ((List.range a).foldl (rowT ws r) s0).2 ∧ ∃ (ps : Nat → Option Addr × Nat), Apt w w' [bx b1 [.int .i64 nons, .int .i64 gm.toks, .slice Y gm.rules.length cy] 37, vvi 161 4 (some ⟨b2, 0, none⟩) nons (rowsB ((List.range a).foldl (rowT ws r) s0).1 nons n) ps, bx b3 [.int .i64 xl, .slice Z r.2.length cz] 77])
    ⟨Nat.zero_le _, rfl, h8', ps, H⟩ ?_
  rintro a g2 w10 N4 hag4 ⟨ha, h11, h8a, ps, H⟩ hN4
  have k5 : g2 5 = .int .i64 n := (hag4 5 (by decide)).trans e5
  have k6 : g2 6 = .slice (some ⟨b2, 0, none⟩) nons nons := (hag4 6 (by decide)).trans e6
  have k1 : g2 1 = .slice X ws.length cx := (hag4 1 (by decide)).trans e1
  have k10 : g2 10 = ptrv b3 := hag4 10 (by decide)
  have k36 : g2 36 = .int .i64 q := (hag4 36 (by decide)).trans h36
  simp only [k5, h11, k36, go_sem, Nat.reduceEqDiff]
  by_cases hla : a < n
  case neg =>
    simp only [show ¬ ((a : Int) < n) from by omega, decide_false, go_sem, Nat.reduceEqDiff]
    rw [i64_of (by omega) (by omega)]
    have han : a = n := by omega
    rw [han] at h8a H
    have hstep : (gm.rules.take (q + 1)).foldl (ruleT ws) (T, false) = (List.range n).foldl (rowT ws r) s0 := by
      rw [foldl_take _ _ _ hlq, hs0, hr, ← hN]
      rfl
    refine hN3 _ _ hlq ⟨hlq, rfl, ?_, ps, ?_⟩
    · rw [hstep]
      exact h8a
    · rw [hstep]
      exact H.take 2
  simp only [show ((a : Int) < n) from by omega, decide_true, go_sem, Nat.reduceEqDiff]
  generalize hs1 : (List.range a).foldl (rowT ws r) s0 = s1 at *
  refine loop_to n a (fun b f w' => a ≤ b ∧ b ≤ n ∧ f 12 = .int .i64 b ∧ f 8 = .bool ((List.range' a (b - a)).foldl (Sh.stepT ws r a) s1).2 ∧ ∃ (ps : Nat → Option Addr × Nat), Apt w w' [bx b1 [.int .i64 nons, .int .i64 gm.toks, .slice Y gm.rules.length cy] 37, vvi 161 4 (some ⟨b2, 0, none⟩) nons (rowsB ((List.range' a (b - a)).foldl (Sh.stepT ws r a) s1).1 nons n) ps, bx b3 [.int .i64 xl, .slice Z r.2.length cz] 77])
    ⟨Nat.le_refl _, by omega, rfl, by rw [Nat.sub_self]; exact h8a, ps, by rw [Nat.sub_self]; exact H⟩ ?_
  rintro b g3 w11 N5 hag5 ⟨hb1, hb2, h12, h8b, ps, H⟩ hN5
  have m5 : g3 5 = .int .i64 n := (hag5 5 (by decide)).trans k5
  have m6 : g3 6 = .slice (some ⟨b2, 0, none⟩) nons nons := (hag5 6 (by decide)).trans k6
  have m1 : g3 1 = .slice X ws.length cx := (hag5 1 (by decide)).trans k1
  have m10 : g3 10 = ptrv b3 := (hag5 10 (by decide)).trans k10
  have m11 : g3 11 = .int .i64 a := (hag5 11 (by decide)).trans h11
  simp only [m5, m6, m1, m10, m11, h12, go_sem, Nat.reduceEqDiff]
  by_cases hlb : b < n
  case neg =>
    simp only [show ¬ ((b : Int) < n) from by omega, decide_false, go_sem, Nat.reduceEqDiff]
    rw [i64_of (by omega) (by omega)]
    have hbn : b = n := by omega
    rw [hbn] at h8b H
    have hstep : (List.range (a + 1)).foldl (rowT ws r) s0 = (List.range' a (n - a)).foldl (Sh.stepT ws r a) s1 := by
      rw [foldl_range, hs1, ← hN]
      rfl
    refine hN4 _ _ hla ⟨hla, rfl, ?_, ps, ?_⟩
    · rw [hstep]
      exact h8b
    · rw [hstep]
      exact H
  simp only [show ((b : Int) < n) from by omega, decide_true, go_sem, Nat.reduceEqDiff]
  have hstep : (List.range' a (b + 1 - a)).foldl (Sh.stepT ws r a) s1 = Sh.stepT ws r a ((List.range' a (b - a)).foldl (Sh.stepT ws r a) s1) b := by
    rw [show b + 1 - a = b - a + 1 from by omega, foldl_range', show a + (b - a) = b from by omega]
  generalize hs2 : (List.range' a (b - a)).foldl (Sh.stepT ws r a) s1 = s2 at *
  have hxn : xl < nons := by omega
  have hab := place_lt (n := n) (show a < n by omega) hlb
  have hT := (H.vv 1 rfl).tab (by omega)
  have hxr : xl < (rowsB s2.1 nons n).length := by rw [rowsB_length]; exact hxn
  have hcell := (H.vv 1 rfl).cell hxr
  have hown := (H.vv 1 rfl).own xl hxr
  rw [vls_rowsB hxn, rowB_length] at hcell hown
  have hR0 : (ps xl).1 = some (ad (ps xl).1) := hown.ptr (by omega)
  have hab' : (a : Int) * (n : Int) = ((a * n : Nat) : Int) := by push_cast; rfl
  have hidx : IntKind.i64.wrap (IntKind.i64.wrap ((a : Int) * (n : Int)) + (b : Int)) = ((a * n + b : Nat) : Int) := by
    rw [hab', i64_of (n := ((a * n : Nat) : Int)) (by omega) (by omega), i64_of (by omega) (by omega)]
    rfl
  rw [hidx, ldB3 (H.box 2 rfl) rfl]
  refine rdi (ixn162 (fun _ => rfl) hxn) (rdi (ld161 hcell) (rdi (ixn161 (fun _ => hR0) hab) (rdi (ld4 (hown.src.cell _ _ (rowB_at hla hlb))) ?_)))
  simp only [go_sem, Nat.reduceEqDiff]
  have hstepT : Sh.stepT ws r a s2 b = if (!s2.1 xl a b && fitsT s2.1 ws r.2 a b) = true then (s2.1.put xl a b, true) else s2 := by
    unfold Sh.stepT
    rw [hxl, Int.toNat_natCast]
  have stay : Sh.stepT ws r a s2 b = s2 → ∀ f', f' 12 = .int .i64 (b + 1 : Nat) → f' 8 = .bool s2.2 → N5 f' w11 := fun he f' q12 q8 => hN5 f' w11 hlb ⟨by omega, hlb, q12, by rw [hstep, he]; exact q8, ps, by rw [hstep, he]; exact H⟩
  cases hc0 : s2.1 xl a b
  case true =>
    simp only [Bool.not_true, go_sem, Nat.reduceEqDiff]
    rw [i64_of (n := (b : Int) + 1) (by omega) (by omega)]
    exact stay (by rw [hstepT, hc0]; rfl) _ rfl h8b
  simp only [Bool.not_false, go_sem, Nat.reduceEqDiff]
  rw [ldB22 (H.box 2 rfl) rfl]
  rw [← hN] at hT
  refine l4Fits_c hl r.2 hT (hX.gr H.gr) (t4.is.gr H.gr) t3 (fun x hx => by have := hright x hx; omega) hb1 (by omega) ?_
  cases hft : fitsT s2.1 ws r.2 a b
  · simp only [go_sem, Nat.reduceEqDiff]
    rw [i64_of (n := (b : Int) + 1) (by omega) (by omega)]
    exact stay (by rw [hstepT, hc0, hft]; rfl) _ rfl h8b
  simp only [go_sem, Nat.reduceEqDiff]
  rw [ldB3 (H.box 2 rfl) rfl]
  refine rdi (ixn162 (fun _ => rfl) hxn) (rdi (ld161 hcell) (rdi (ixn161 (fun _ => hR0) hab) ?_))
  refine storeVV H 1 xl (m := a * n + b) rfl (by decide) sz4 rfl rfl hxr (by rw [vls_rowsB hxn, rowB_length]; exact hab) fun w12 H => ?_
  rw [rowsB_put hxn hla hlb] at H
  rw [i64_of (n := (b : Int) + 1) (by omega) (by omega)]
  refine hN5 _ _ hlb ⟨by omega, hlb, rfl, ?_, ps, ?_⟩
  · rw [hstep, hstepT, hc0, hft]
    rfl
  · rw [hstep, hstepT, hc0, hft]
    exact H
theorem l4In_c {F : Nat → Prop} {w : World} {v : Value} {gm : Gram} {X : Option Addr} {cx n0 : Nat} {ws : List Int} (hv : GramV F w v gm) (hg : goodG gm = true) (hX : Ints w X ws) (hn : n0 = ws.length) (hl : ws.length ≤ 10) {k : Value → World → Prop}
    (hk : ∀ w', Gr w w' → k (.bool (inL gm.rules ws)) w') : CallK Try.prog 102 [v, .int .i64 0, .slice X n0 cx] k w := by
  subst hn
  obtain ⟨Y, cy, rfl, hc, hy⟩ := hv
  have hn6 := good_nons hg
  refine enter102 ?_
  unfold S102
  have H := Apt.nil w
  refine boxH H fun b1 w1 H => ?_
  rw [ldB_agg agg37 sz37 rfl (H.box 0 rfl)]
  refine l4Table_c (gm := gm) ⟨Y, cy, rfl, hc, hy.gr H.gr⟩ hg (hX.gr H.gr) rfl hl fun w2 U c nons g2 hnn hT => ?_
  have hns : 0 < nons := by omega
  obtain ⟨R, cr, h1, h2, h3⟩ := hT.row 0 hns
  have := h3 0 ws.length (by omega) (by omega)
  rw [Nat.zero_mul, Nat.zero_add] at this
  rw [ix162_0 hT.ptr hns, ld161 h1]
  simp only [go_sem, Nat.reduceEqDiff]
  rw [ixn161 (fun _ => h2) (Nat.lt_of_lt_of_le (Nat.lt_succ_self _) (Nat.le_mul_of_pos_left _ (by omega))), ld4 this]
  exact hk _ (gr_trans H.gr g2)
end Go.Proofs.Ytiohaeckagjebaa

/- Contract: the program's table of what derives what. -/
set_option linter.unusedVariables false
set_option linter.unusedSimpArgs false
set_option maxRecDepth 100000
namespace Go.Sh
open Go
theorem map_const_range (n : Nat) (v : Value) : (List.range n).map (fun _ => v) = List.replicate n v := by
  rw [List.map_const', List.length_range]
theorem cellsT_none : cellsT noTab = List.replicate 726 (.bool false) := map_const_range 726 (.bool false)
theorem fill_one {place : Nat → Option (Nat × Nat)} {cells : Array Value} {v : Value} (hp : place 0 = some (0, 1)) (hv : v.cells = #[v]) (h0 : 0 < cells.size) : Instr.fill place cells [(0, v)] = some (cells.setIfInBounds 0 v) := by
  simp only [Instr.fill, hp, hv]
  have e : (decide ((#[v] : Array Value).size ≠ 1) || decide (0 + (#[v] : Array Value).size > cells.size)) = false := by
    rw [Bool.or_eq_false_iff]
    exact ⟨by simp, decide_eq_false (by show ¬ (0 + 1 > cells.size); omega)⟩
  rw [if_neg (by rw [e]; exact Bool.false_ne_true)]
  simp
theorem set_head {a v : Value} {R : Array Value} : (#[a] ++ R).setIfInBounds 0 v = #[v] ++ R := by
  apply Array.ext'
  simp
theorem agg_pos (v : Value) (R : Array Value) : 0 < (Value.agg (#[v] ++ R)).cells.size := by
  show 0 < (#[v] ++ R).size
  simp
  omega
theorem agg_list (v : Value) (R : Array Value) : (Value.agg (#[v] ++ R)).cells.toList = v :: R.toList := by
  show (#[v] ++ R).toList = _
  simp
theorem rep_list (n : Nat) (v : Value) : (Array.replicate n v).toList = List.replicate n v := Array.toList_replicate
end Go.Sh
namespace Go.Proofs.Ytiohaeckagjebaa
open Go Go.Sh Go.RowKit
theorem inf111' : Inf Try.prog 111 (.agg (#[.slice none 0 0] ++ Array.replicate 726 (.bool false))) 727 752 := inf_of (by kernel_rfl)
theorem sz109' : szOf Try.prog 109 726 := szOf_of (by kernel_rfl)
theorem bd111 (X : Option Addr) (n c : Nat) : ∃ z : Value, (∀ (S : WS) (k : Value → Prop), Rd Try.prog S (sBuild 111 [(0, .slice X n c)]) k = k z) ∧ z.cells.toList = .slice X n c :: cellsT noTab := by
  refine ⟨.agg (#[.slice X n c] ++ Array.replicate 726 (.bool false)), fun S k => ?_, ?_⟩
  · refine rd_buildN (ps := [(0, 1), (1, 726)]) Try.underlying111 inf111' ⟨⟨rfl, sz22⟩, ⟨rfl, sz109'⟩, trivial⟩ ((fill_one rfl rfl ?_).trans (congrArg some set_head))
    exact agg_pos _ _
  · rw [agg_list, cellsT_none]
    exact congrArg _ (rep_list _ _)

theorem spans_c {F : Nat → Prop} {w : World} {v : Value} {gm : Gram} {X : Option Addr} {cx n0 : Nat} {ws : List Int} (hv : GramV F w v gm) (hg : goodG gm = true) (hX : Ints w X ws) (hn : n0 = ws.length) (hl : ws.length ≤ 10) (hw : ∀ t ∈ ws, 0 ≤ t ∧ t ≤ 100) {k : Value → World → Prop}
    (hk : ∀ w' b, Apt w w' [bx b (.slice X ws.length cx :: cellsT (spanT gm.rules ws)) 111] → k (ptrv b) w') :
    CallK Try.prog 104 [v, .slice X n0 cx] k w := by
  subst hn
  obtain ⟨Y, cy, rfl, hc, hy⟩ := hv
  have hn6 := good_nons hg
  have hr16 := good_len hg
  have hleft6 := good_left6 hg
  refine enter104 ?_
  unfold S104
  have H := Apt.nil w
  refine boxH H fun b1 w1 H => ?_
  obtain ⟨z, hz1, hz2⟩ := bd111 X ws.length cx
  refine rdi (hz1 _ _) ?_
  refine boxH H fun b2 w2 H => ?_
  rw [hz2] at H
  simp only [List.nil_append, List.cons_append] at H
  refine loop_ghost (fun (s : Tab × Bool) f w' => tabSt gm.rules ws s ∧ f 6 = .bool s.2 ∧ Apt w w' [bx b1 [.int .i64 gm.nons, .int .i64 gm.toks, .slice Y gm.rules.length cy] 37, bx b2 (.slice X ws.length cx :: cellsT s.1) 111]) (fun s => if s.2 = true then openT s.1 + 1 else 0) (noTab, true)
    ⟨by unfold tabSt; rw [if_pos rfl]; exact fun U h => h, rfl, H⟩ ?_
  rintro ⟨T, more⟩ f7 w6 N2 hag2 ⟨hst, h8, H⟩ hN2
  have f2' : f7 2 = ptrv b1 := hag2 2 (by decide)
  have f5' : f7 5 = ptrv b2 := hag2 5 (by decide)
  have f1' : f7 1 = .slice X ws.length cx := hag2 1 (by decide)
  simp only [h8, f2', go_sem, Nat.reduceEqDiff]
  cases more
  · simp only [go_sem, Nat.reduceEqDiff]
    rw [f5']
    have hsp : T = spanT gm.rules ws := by
      unfold tabSt at hst
      rw [if_neg Bool.false_ne_true] at hst
      exact hst.eq
    rw [← hsp] at hk
    exact hk _ b2 (H.erase 0)
  simp only [go_sem, Nat.reduceEqDiff]
  rw [ldB35 (H.box 0 rfl) rfl]
  simp only [go_sem, Nat.reduceEqDiff]
  refine loop_to gm.rules.length 0 (fun q f w' => q ≤ gm.rules.length ∧ f 18 = .int .i64 q ∧ f 6 = .bool ((gm.rules.take q).foldl (ruleT ws) (T, false)).2 ∧ Apt w w' [bx b1 [.int .i64 gm.nons, .int .i64 gm.toks, .slice Y gm.rules.length cy] 37, bx b2 (.slice X ws.length cx :: cellsT ((gm.rules.take q).foldl (ruleT ws) (T, false)).1) 111])
    ⟨Nat.zero_le _, rfl, rfl, H⟩ ?_
  rintro q g1 w7 N3 hag3 ⟨hq, h36, h8', H⟩ hN3
  have e34 : g1 16 = .slice Y gm.rules.length cy := hag3 16 (by decide)
  have e35 : g1 17 = .int .i64 gm.rules.length := hag3 17 (by decide)
  have e5 : g1 5 = ptrv b2 := (hag3 5 (by decide)).trans f5'
  have e1 : g1 1 = .slice X ws.length cx := (hag3 1 (by decide)).trans f1'
  simp only [e34, e35, e1, h36, go_sem, Nat.reduceEqDiff]
  by_cases hlq : q < gm.rules.length
  case neg =>
    simp only [show ¬ ((q : Int) < gm.rules.length) from by omega, decide_false, go_sem, Nat.reduceEqDiff]
    rw [List.take_of_length_le (by omega)] at h8' H
    have hinc := passT_inc hleft6 hl (T, false)
    refine hN2 (passT gm.rules ws (T, false)) _ _ ⟨tabSt_next hst, h8', H⟩ ?_
    rw [if_pos rfl]
    rcases hinc with he | ⟨h1, h2⟩
    · rw [he, if_neg Bool.false_ne_true]
      omega
    · rw [if_pos h1]
      dsimp only at h2 ⊢
      omega
  simp only [show ((q : Int) < gm.rules.length) from by omega, decide_true, go_sem, Nat.reduceEqDiff]
  obtain ⟨Z, cz, t1, t2, t3, t4⟩ := hy.row q hlq
  have hleft := good_left hg hlq
  have hright := good_right hg hlq
  have hR4 := good_rule hg q hlq
  generalize hr : rul gm.rules q = r at *
  obtain ⟨xl, hxl⟩ : ∃ x : Nat, r.1 = x := ⟨r.1.toNat, by omega⟩
  rw [hxl] at t1 hleft
  rw [ixn35 hy.ptr hlq, ld_agg agg77 sz77 (cs := [.int .i64 xl, .slice Z r.2.length cz]) rfl (fun j hj => by
    match j, hj with
    | 0, _ => rw [add_add, Nat.add_zero]; exact H.gr.cell t1
    | 1, _ => rw [add_add]; exact H.gr.cell t2)]
  refine allocH H inf77 fun b3 w8 H => ?_
  refine storeH H 2 rfl sz77 rfl rfl rfl fun w9 H => ?_
  simp only [List.nil_append, List.cons_append, List.set_cons_zero, List.set_cons_succ] at H
  generalize hN : ws.length + 1 = n at *
  have hNi : ((ws.length : Int) + 1) = (n : Int) := by omega
  rw [hNi, i64_of (n := (n : Int)) (by omega) (by omega)]
  generalize hs0 : (gm.rules.take q).foldl (ruleT ws) (T, false) = s0 at *
  refine loop_to n 0 (fun a f w' => a ≤ n ∧ f 25 = .int .i64 a ∧ f 6 = .bool ((List.range a).foldl (rowT ws r) s0).2 ∧ Apt w w' [bx b1 [.int .i64 gm.nons, .int .i64 gm.toks, .slice Y gm.rules.length cy] 37, bx b2 (.slice X ws.length cx :: cellsT ((List.range a).foldl (rowT ws r) s0).1) 111, bx b3 [.int .i64 xl, .slice Z r.2.length cz] 77])
    ⟨Nat.zero_le _, rfl, h8', H⟩ ?_
  rintro a g2 w10 N4 hag4 ⟨ha, h11, h8a, H⟩ hN4
  have k24 : g2 24 = .int .i64 n := hag4 24 (by decide)
  have k5 : g2 5 = ptrv b2 := (hag4 5 (by decide)).trans e5
  have k1 : g2 1 = .slice X ws.length cx := (hag4 1 (by decide)).trans e1
  have k8 : g2 8 = ptrv b3 := hag4 8 (by decide)
  have k18 : g2 18 = .int .i64 q := (hag4 18 (by decide)).trans h36
  simp only [k24, h11, k18, go_sem, Nat.reduceEqDiff]
  by_cases hla : a < n
  case neg =>
    simp only [show ¬ ((a : Int) < n) from by omega, decide_false, go_sem, Nat.reduceEqDiff]
    rw [i64_of (by omega) (by omega)]
    have han : a = n := by omega
    rw [han] at h8a H
    have hstep : (gm.rules.take (q + 1)).foldl (ruleT ws) (T, false) = (List.range n).foldl (rowT ws r) s0 := by
      rw [foldl_take _ _ _ hlq, hs0, hr, ← hN]
      rfl
    refine hN3 _ _ hlq ⟨hlq, rfl, ?_, ?_⟩
    · rw [hstep]
      exact h8a
    · rw [hstep]
      exact H.take 2
  simp only [show ((a : Int) < n) from by omega, decide_true, go_sem, Nat.reduceEqDiff]
  generalize hs1 : (List.range a).foldl (rowT ws r) s0 = s1 at *
  refine loop_to n a (fun b f w' => a ≤ b ∧ b ≤ n ∧ f 10 = .int .i64 b ∧ f 6 = .bool ((List.range' a (b - a)).foldl (Sh.stepT ws r a) s1).2 ∧ Apt w w' [bx b1 [.int .i64 gm.nons, .int .i64 gm.toks, .slice Y gm.rules.length cy] 37, bx b2 (.slice X ws.length cx :: cellsT ((List.range' a (b - a)).foldl (Sh.stepT ws r a) s1).1) 111, bx b3 [.int .i64 xl, .slice Z r.2.length cz] 77])
    ⟨Nat.le_refl _, by omega, rfl, by rw [Nat.sub_self]; exact h8a, by rw [Nat.sub_self]; exact H⟩ ?_
  rintro b g3 w11 N5 hag5 ⟨hb1, hb2, h12, h8b, H⟩ hN5
  have m5 : g3 5 = ptrv b2 := (hag5 5 (by decide)).trans k5
  have m1 : g3 1 = .slice X ws.length cx := (hag5 1 (by decide)).trans k1
  have m8 : g3 8 = ptrv b3 := (hag5 8 (by decide)).trans k8
  have m9 : g3 9 = .int .i64 a := hag5 9 (by decide)
  have m25 : g3 25 = .int .i64 a := (hag5 25 (by decide)).trans h11
  simp only [m5, m1, m8, m9, m25, h12, go_sem, Nat.reduceEqDiff]
  by_cases hlb : b < n
  case neg =>
    simp only [show ¬ ((b : Int) ≤ ws.length) from by omega, decide_false, go_sem, Nat.reduceEqDiff]
    rw [i64_of (by omega) (by omega)]
    have hbn : b = n := by omega
    rw [hbn] at h8b H
    have hstep : (List.range (a + 1)).foldl (rowT ws r) s0 = (List.range' a (n - a)).foldl (Sh.stepT ws r a) s1 := by
      rw [foldl_range, hs1, ← hN]
      rfl
    refine hN4 _ _ hla ⟨hla, rfl, ?_, ?_⟩
    · rw [hstep]
      exact h8b
    · rw [hstep]
      exact H
  simp only [show ((b : Int) ≤ ws.length) from by omega, decide_true, go_sem, Nat.reduceEqDiff]
  have hstep : (List.range' a (b + 1 - a)).foldl (Sh.stepT ws r a) s1 = Sh.stepT ws r a ((List.range' a (b - a)).foldl (Sh.stepT ws r a) s1) b := by
    rw [show b + 1 - a = b - a + 1 from by omega, foldl_range', show a + (b - a) = b from by omega]
  generalize hs2 : (List.range' a (b - a)).foldl (Sh.stepT ws r a) s1 = s2 at *
  have hxn : xl < 6 := by omega
  have hstepT : Sh.stepT ws r a s2 b = if (!s2.1 xl a b && fitsT s2.1 ws r.2 a b) = true then (s2.1.put xl a b, true) else s2 := by
    unfold Sh.stepT
    rw [hxl, Int.toNat_natCast]
  have H := H.drew
  have stay : Sh.stepT ws r a s2 b = s2 → ∀ f', f' 10 = .int .i64 (b + 1 : Nat) → f' 6 = .bool s2.2 → N5 f' w11.drew := fun he f' q12 q8 => hN5 f' w11.drew hlb ⟨by omega, hlb, q12, by rw [hstep, he]; exact q8, by rw [hstep, he]; exact H⟩
  rw [ldB3 (H.box 2 rfl) rfl]
  rw [ixa109 (by omega) (by omega), ixa108 (by omega) (by omega), ixa107 (by omega) (by omega)]
  simp only [Int.toNat_natCast, go_sem, Nat.reduceEqDiff]
  have hoff : 0 + 1 + xl * 121 + a * 11 + b = xl * 121 + a * 11 + b + 1 := by omega
  rw [hoff, ldB4 (H.box 1 rfl) (cellsT_at hxn (by omega) (by omega))]
  simp only [go_sem, Nat.reduceEqDiff]
  cases hc0 : s2.1 xl a b
  case true =>
    simp only [Bool.not_true, go_sem, Nat.reduceEqDiff]
    rw [i64_of (n := (b : Int) + 1) (by omega) (by omega)]
    exact stay (by rw [hstepT, hc0]; rfl) _ rfl h8b
  simp only [Bool.not_false, go_sem, Nat.reduceEqDiff]
  rw [ldB22 (H.box 2 rfl) rfl]
  refine sequence_c hl hw r.2 (H.box 1 rfl) (hX.gr H.gr) (t4.is.gr H.gr) t3 (fun x hx => by have := hright x hx; omega) hb1 (by omega) ?_
  cases hft : fitsT s2.1 ws r.2 a b
  · simp only [go_sem, Nat.reduceEqDiff]
    rw [i64_of (n := (b : Int) + 1) (by omega) (by omega)]
    exact stay (by rw [hstepT, hc0, hft]; rfl) _ rfl h8b
  simp only [go_sem, Nat.reduceEqDiff]
  have H := H.drew
  rw [ldB3 (H.box 2 rfl) rfl]
  rw [ixa109 (by omega) (by omega), ixa108 (by omega) (by omega), ixa107 (by omega) (by omega)]
  simp only [Int.toNat_natCast, go_sem, Nat.reduceEqDiff]
  rw [hoff]
  refine storeH H 1 rfl sz4 rfl rfl (by rw [Nat.ble_eq, List.length_cons, cellsT_length]; omega) fun w12 H => ?_
  have hset : List.take (xl * 121 + a * 11 + b + 1) (.slice X ws.length cx :: cellsT s2.1) ++ (Value.bool true).cells.toList ++ List.drop (xl * 121 + a * 11 + b + 1 + 1) (.slice X ws.length cx :: cellsT s2.1) = .slice X ws.length cx :: cellsT (s2.1.put xl a b) := by
    rw [show (Value.bool true).cells.toList = [.bool true] from rfl, take_put_drop (by rw [List.length_cons, cellsT_length]; omega)]
    exact cellsT_put hxn (by omega) (by omega)
  rw [hset] at H
  rw [i64_of (n := (b : Int) + 1) (by omega) (by omega)]
  refine hN5 _ _ hlb ⟨by omega, hlb, rfl, ?_, ?_⟩
  · rw [hstep, hstepT, hc0, hft]
    rfl
  · rw [hstep, hstepT, hc0, hft]
    exact H
end Go.Proofs.Ytiohaeckagjebaa

/- Contracts of what PumpWord reaches, third part. -/
set_option linter.unusedVariables false
set_option linter.unusedSimpArgs false
set_option maxRecDepth 100000
namespace Go.Sh
open Go
theorem inB_iff {n lo hi : Int} : inB n lo hi = true ↔ lo ≤ n ∧ n ≤ hi := by simp [inB]
end Go.Sh
namespace Go.Proofs.Ytiohaeckagjebaa
open Go Go.Sh Go.RowKit

theorem pumpWord1_p {w : World} : Pred 4 (.func (.func 130) [].toArray [].toArray) (fun x => !inB x 0 1000000) w :=
  fun w1 g1 x k hk => callV0 (pumpWord1_c (hk w1 (Gr.refl w1)))
theorem implPumpWord_c {w : World} {X Y : Option Addr} {c d : Nat} {xs cs : List Int} {many : Int} (hx : Ints w X xs) (hc : xs.length ≤ c) (hy : Ints w Y cs) {k : Value → World → Prop}
    (hk : ∀ X' c' w', Gr w w' → match pumpW xs cs many with
      | some l => Own 3 w' w.heap.size X' c' l → k (.tuple #[.slice X' l.length c', .bool true]) w'
      | none => k (.tuple #[.slice none 0 0, .bool false]) w') :
    CallK Try.prog 79 [.slice X xs.length c, .slice Y cs.length d, .int .i64 many] k w := by
  refine enter79 ?_
  unfold S79
  have hno : ∀ w', Gr w w' → pumpW xs cs many = none → k (.tuple #[.slice none 0 0, .bool false]) w' := fun w' g e => by
    have := hk none 0 w' g
    rwa [e] at this
  simp only [go_sem, Nat.reduceEqDiff]
  by_cases h60 : (60 : Int) < xs.length
  · simp only [h60, decide_true, go_sem, Nat.reduceEqDiff]
    exact hno w (Gr.refl w) (if_neg fun h => by omega)
  simp only [h60, decide_false, go_sem, Nat.reduceEqDiff]
  by_cases h4' : cs.length = 4
  rotate_left
  · have h4 : ¬ (cs.length : Int) = 4 := by omega
    simp only [h4, decide_false, Bool.not_false, go_sem, Nat.reduceEqDiff]
    exact hno w (Gr.refl w) (if_neg fun h => h4' h.2.2.1.len)
  have h4 : (cs.length : Int) = 4 := by omega
  simp only [h4, decide_true, Bool.not_true, go_sem, Nat.reduceEqDiff]
  refine in_c ?_
  simp only [go_sem, Nat.reduceEqDiff]
  cases hm : inB many 0 4
  · simp only [Bool.not_false, go_sem, Nat.reduceEqDiff]
    exact hno w (Gr.refl w) (if_neg fun h => by rw [hm] at h; exact absurd h.2.2.2 (by decide))
  simp only [Bool.not_true, go_sem, Nat.reduceEqDiff]
  refine containsFunc_c (p := fun x => !inB x 0 1000000) hx pumpWord1_p fun w1 g1 => ?_
  have hany : xs.any (fun x => !inB x 0 1000000) = !allB xs 0 1000000 := by
    unfold allB
    rw [List.not_all_eq_any_not]
  rw [hany]
  cases ha : allB xs 0 1000000
  · simp only [Bool.not_false, go_sem, Nat.reduceEqDiff]
    exact hno w1 g1 (if_neg fun h => by rw [ha] at h; exact absurd h.2.1 (by decide))
  simp only [Bool.not_true, go_sem, Nat.reduceEqDiff]
  refine ⟨fun f w' => ∃ i : Nat, i ≤ 4 ∧ f 31 = .int .i64 i ∧ f 8 = .int .i64 (if i = 0 then 0 else cs.getD (i - 1) 0) ∧ Gr w w' ∧ (∀ j, j < i → (if j = 0 then 0 else cs.getD (j - 1) 0) ≤ cs.getD j 0 ∧ cs.getD j 0 ≤ xs.length), fun f _ => 4 - (intOf (f 31)).toNat,
    ⟨0, by omega, rfl, rfl, g1, fun j hj => absurd hj (Nat.not_lt_zero j)⟩, ?_⟩
  rintro f w2 hag ⟨i, hi, h31, h8, g2, hpre⟩
  have f0 : f 0 = .slice X xs.length c := hag 0 (by decide)
  have f1 : f 1 = .slice Y cs.length d := hag 1 (by decide)
  have f2 : f 2 = .int .i64 many := hag 2 (by decide)
  have f29 : f 29 = .slice Y cs.length d := hag 29 (by decide)
  have f30 : f 30 = .int .i64 4 := hag 30 (by decide)
  simp only [f0, f1, f2, f29, f30, h31, h8, go_sem, Nat.reduceEqDiff]
  by_cases hlt : i < 4
  · have hlt' : (i : Int) < 4 := by omega
    simp only [hlt', decide_true, go_sem, Nat.reduceEqDiff]
    rw [ixn22 hy.ptr (by omega), ld3 ((hy.gr g2).cell i (by omega))]
    refine in_c ?_
    simp only [go_sem, Nat.reduceEqDiff]
    cases hb : inB (cs.getD i 0) (if i = 0 then 0 else cs.getD (i - 1) 0) xs.length
    · simp only [Bool.not_false, go_sem, Nat.reduceEqDiff]
      refine hno w2 g2 (if_neg fun h => ?_)
      obtain ⟨_, c0, c1, c2, c3, c4⟩ := h.2.2.1
      have : inB (cs.getD i 0) (if i = 0 then 0 else cs.getD (i - 1) 0) xs.length = true := inB_iff.2 (by
        rcases (show i = 0 ∨ i = 1 ∨ i = 2 ∨ i = 3 by omega) with rfl | rfl | rfl | rfl
        · exact ⟨c0, by omega⟩
        · exact ⟨c1, by omega⟩
        · exact ⟨c2, by omega⟩
        · exact ⟨c3, by omega⟩)
      rw [hb] at this
      cases this
    · simp only [Bool.not_true, go_sem, Nat.reduceEqDiff]
      rw [i64_of (by omega) (by omega)]
      have hb' := inB_iff.1 hb
      refine ⟨⟨i + 1, hlt, rfl, by rw [if_neg (by omega)]; rfl, g2, fun j hj => ?_⟩, ?_⟩
      · rcases Nat.lt_succ_iff_lt_or_eq.1 hj with h | rfl
        · exact hpre j h
        · exact hb'
      · simp only [intOf]
        omega
  have hi4 : i = 4 := by omega
  subst hi4
  have e0 := hpre 0 (by omega)
  have e1 := hpre 1 (by omega)
  have e2 := hpre 2 (by omega)
  have e3 := hpre 3 (by omega)
  simp only [if_true, Nat.one_ne_zero, if_false, show (2 : Nat) ≠ 0 by decide, show (3 : Nat) ≠ 0 by decide, Nat.sub_self, show (2 - 1 : Nat) = 1 from rfl, show (3 - 1 : Nat) = 2 from rfl] at e0 e1 e2 e3
  have hcs : Cuts cs xs.length := ⟨h4', e0.1, e1.1, e2.1, e3.1, e3.2⟩
  have hm' := inB_iff.1 hm
  obtain ⟨m, rfl⟩ := Int.eq_ofNat_of_zero_le hm'.1
  have e : pumpW xs cs m = if (pumpL xs cs m).length ≤ 60 then some (pumpL xs cs m) else none := if_pos ⟨by omega, ha, hcs, hm⟩
  obtain ⟨_, c0, c1, c2, c3, c4⟩ := hcs
  simp only [show ¬ ((4 : Nat) : Int) < 4 by decide, decide_false, go_sem, Nat.reduceEqDiff]
  obtain ⟨p0, l0⟩ := Ints_seg hx hc (Int.le_refl 0) c0 (by omega)
  obtain ⟨p1, l1⟩ := Ints_seg hx hc c0 c1 (by omega)
  obtain ⟨p2, l2⟩ := Ints_seg hx hc (by omega) c2 (by omega)
  obtain ⟨p3, l3⟩ := Ints_seg hx hc (by omega) c3 (by omega)
  obtain ⟨p4, l4⟩ := Ints_seg hx hc (a := cs.getD 3 0) (b := xs.length) (by omega) c4 (Int.le_refl _)
  refine bs22 [] (by decide) (by simp [Instr.fill, madeCells]) rfl fun b w3 hb1 hb2 g3 hbox hrow => ?_
  have g3' := gr_trans g2 g3
  rw [ix22_0 hy.ptr (by omega), ld3 ((hy.gr g3').cell 0 (by omega)), slh22 c0 (by omega)]
  refine apI (xs := []) (hrow w.heap.size g2.size) (p0.gr g3') rfl (by rw [l0]; simp) (by rw [l0, List.length_nil]; omega) g3'.size fun X1 d1 w4 o1 g4 => ?_
  rw [List.nil_append] at o1
  have g4' := gr_mod g3' g4 fun q hq => by simp [blk] at hq; have := g2.size; omega
  have hl : xs.length ≤ 100 := by omega
  have hm4 : m ≤ 4 := by omega
  clear hag hpre e0 e1 e2 e3 h31 h8 f29 f30 hno
  have hb1 : (seg xs 0 (cs.getD 0 0)).length ≤ 100 := by omega
  refine ⟨fun f w' => ∃ (i : Nat) (X' : Option Addr) (c' : Nat), i ≤ m ∧ f 51 = .int .i64 i ∧ f 11 = .slice X' (seg xs 0 (cs.getD 0 0) ++ rep i (seg xs (cs.getD 0 0) (cs.getD 1 0))).length c' ∧ Gr w w' ∧ Own 3 w' w.heap.size X' c' (seg xs 0 (cs.getD 0 0) ++ rep i (seg xs (cs.getD 0 0) (cs.getD 1 0))), fun f _ => m - (intOf (f 51)).toNat,
    ⟨0, X1, d1, Nat.zero_le _, rfl, by simp [rep]; rfl, g4', by simpa [rep] using o1⟩, ?_⟩
  rintro f w2 hag ⟨i, X2, d2, him, h8, h7, g2, o2⟩
  have f0 : f 0 = .slice X xs.length c := (hag 0 (by decide)).trans f0
  have f1 : f 1 = .slice Y cs.length d := (hag 1 (by decide)).trans f1
  have f50 : f 50 = .int .i64 m := (hag 50 (by decide)).trans (by simp only [upd_at, Nat.reduceEqDiff, ite_T, ite_F, f2])
  have f2 : f 2 = .int .i64 m := (hag 2 (by decide)).trans f2
  simp only [f0, f1, f2, f50, h7, h8, go_sem, Nat.reduceEqDiff]
  by_cases hlt : i < m
  · have hlt' : (i : Int) < m := by omega
    have gd := gr_trans g2 (gr_drew w2)
    simp only [hlt', decide_true, go_sem, Nat.reduceEqDiff]
    rw [ix22_0 hy.ptr (by omega), ld3 ((hy.gr gd).cell 0 (by omega)), ix22_1 hy.ptr (by omega), ld3 ((hy.gr gd).cell 1 (by omega)), sl22 c0 c1 (by omega)]
    have hlen : (seg xs 0 (cs.getD 0 0) ++ rep i (seg xs (cs.getD 0 0) (cs.getD 1 0))).length ≤ 100 + 4 * 100 := by
      rw [List.length_append, rep_length]
      have := Nat.mul_le_mul (show i ≤ 4 by omega) (show (seg xs (cs.getD 0 0) (cs.getD 1 0)).length ≤ 100 by omega)
      omega
    refine apI (o2.gr (gr_drew w2)) (p1.gr gd) rfl (by rw [l1]) (by omega) gd.size fun X3 d3 w3 o3 g3 => ?_
    rw [i64_of (by omega) (by omega)]
    have g3' := gr_mod gd g3 fun q hq => (Row.ge o2 hq).1
    rw [List.append_assoc, ← rep_succ] at o3
    refine ⟨⟨i + 1, X3, d3, hlt, rfl, by rw [List.append_assoc, ← rep_succ], g3', o3⟩, ?_⟩
    simp only [intOf]
    omega
  · have him' : i = m := by omega
    subst him'
    simp only [show ¬ (i : Int) < i from by omega, decide_false, go_sem, Nat.reduceEqDiff]
    have gd := gr_trans g2 (gr_drew w2)
    rw [ix22_1 hy.ptr (by omega), ld3 ((hy.gr gd).cell 1 (by omega)), ix22_2 hy.ptr (by omega), ld3 ((hy.gr gd).cell 2 (by omega)), sl22 (by omega) c2 (by omega)]
    have hlen : (seg xs 0 (cs.getD 0 0) ++ rep i (seg xs (cs.getD 0 0) (cs.getD 1 0))).length ≤ 100 + 4 * 100 := by
      rw [List.length_append, rep_length]
      have := Nat.mul_le_mul (show i ≤ 4 by omega) (show (seg xs (cs.getD 0 0) (cs.getD 1 0)).length ≤ 100 by omega)
      omega
    refine apI (o2.gr (gr_drew w2)) (p2.gr gd) rfl (by rw [l2]) (by omega) gd.size fun X3 d3 w3 o3 g3 => ?_
    have g3' := gr_mod gd g3 fun q hq => (Row.ge o2 hq).1
    have hlen3 : (seg xs 0 (cs.getD 0 0) ++ rep i (seg xs (cs.getD 0 0) (cs.getD 1 0)) ++ seg xs (cs.getD 1 0) (cs.getD 2 0)).length ≤ 600 := by
      rw [List.length_append]
      omega
    refine ⟨fun f w' => ∃ (j : Nat) (X' : Option Addr) (c' : Nat), j ≤ i ∧ f 75 = .int .i64 j ∧ f 11 = .slice X' (seg xs 0 (cs.getD 0 0) ++ rep i (seg xs (cs.getD 0 0) (cs.getD 1 0)) ++ seg xs (cs.getD 1 0) (cs.getD 2 0) ++ rep j (seg xs (cs.getD 2 0) (cs.getD 3 0))).length c' ∧ Gr w w' ∧ Own 3 w' w.heap.size X' c' (seg xs 0 (cs.getD 0 0) ++ rep i (seg xs (cs.getD 0 0) (cs.getD 1 0)) ++ seg xs (cs.getD 1 0) (cs.getD 2 0) ++ rep j (seg xs (cs.getD 2 0) (cs.getD 3 0))), fun f _ => i - (intOf (f 75)).toNat,
      ⟨0, X3, d3, Nat.zero_le _, rfl, by simp [rep]; rfl, g3', by simpa [rep] using o3⟩, ?_⟩
    rintro f' w4 hag' ⟨j, X4, d4, hji, h9, h7', g4, o4⟩
    have f0' : f' 0 = .slice X xs.length c := (hag' 0 (by decide)).trans f0
    have f1' : f' 1 = .slice Y cs.length d := (hag' 1 (by decide)).trans f1
    have f74' : f' 74 = .int .i64 i := (hag' 74 (by decide)).trans (by simp only [upd_at, Nat.reduceEqDiff, ite_T, ite_F, f2])
    simp only [f0', f1', f74', h7', h9, go_sem, Nat.reduceEqDiff]
    have hlen4 : (seg xs 0 (cs.getD 0 0) ++ rep i (seg xs (cs.getD 0 0) (cs.getD 1 0)) ++ seg xs (cs.getD 1 0) (cs.getD 2 0) ++ rep j (seg xs (cs.getD 2 0) (cs.getD 3 0))).length ≤ 600 + 4 * 100 := by
      rw [List.length_append, rep_length j]
      have := Nat.mul_le_mul (show j ≤ 4 by omega) (show (seg xs (cs.getD 2 0) (cs.getD 3 0)).length ≤ 100 by omega)
      omega
    by_cases hlt2 : j < i
    · have hlt' : (j : Int) < i := by omega
      have gd4 := gr_trans g4 (gr_drew w4)
      simp only [hlt', decide_true, go_sem, Nat.reduceEqDiff]
      rw [ix22_2 hy.ptr (by omega), ld3 ((hy.gr gd4).cell 2 (by omega)), ix22_3 hy.ptr (by omega), ld3 ((hy.gr gd4).cell 3 (by omega)), sl22 (by omega) c3 (by omega)]
      refine apI (o4.gr (gr_drew w4)) (p3.gr gd4) rfl (by rw [l3]) (by omega) gd4.size fun X5 d5 w5 o5 g5 => ?_
      rw [i64_of (by omega) (by omega)]
      have g5' := gr_mod gd4 g5 fun q hq => (Row.ge o4 hq).1
      rw [List.append_assoc, ← rep_succ] at o5
      refine ⟨⟨j + 1, X5, d5, hlt2, rfl, by rw [List.append_assoc, ← rep_succ], g5', o5⟩, ?_⟩
      simp only [intOf]
      omega
    · have hji' : j = i := by omega
      subst hji'
      simp only [show ¬ (j : Int) < j from by omega, decide_false, go_sem, Nat.reduceEqDiff]
      rw [ix22_3 hy.ptr (by omega), ld3 ((hy.gr g4).cell 3 (by omega)), sll22 (by omega) c4]
      refine apI o4 (p4.gr g4) rfl (by rw [l4]; simp) (by omega) g4.size fun X5 d5 w5 o5 g5 => ?_
      have g5' := gr_mod g4 g5 fun q hq => (Row.ge o4 hq).1
      have hk' := hk X5 d5 w5 g5'
      rw [e] at hk'
      simp only [go_sem, Nat.reduceEqDiff]
      change CondK (.bool (decide ((60 : Int) < (pumpL xs cs j).length))) (k (.tuple #[.slice none 0 0, .bool false]) w5) (k (.tuple #[.slice X5 (pumpL xs cs j).length d5, .bool true]) w5)
      by_cases hl' : (pumpL xs cs j).length ≤ 60
      · simp only [show (Int.ofNat j).toNat = j from rfl, hl', if_true] at hk'
        have := hk' o5
        simp only [show ¬ (60 : Int) < (pumpL xs cs j).length by omega, decide_false, go_sem, Nat.reduceEqDiff]
        exact this
      · rw [if_neg hl'] at hk'
        simp only [show (60 : Int) < (pumpL xs cs j).length by omega, decide_true, go_sem, Nat.reduceEqDiff]
        exact hk'

theorem ImplPumpWord_c {w : World} {X Y : Option Addr} {c d : Nat} {xs cs : List Int} {many : Int} (hx : Ints w X xs) (hc : xs.length ≤ c) (hy : Ints w Y cs) {k : Value → World → Prop}
    (hk : ∀ X' c' w', Gr w w' → match pumpW xs cs many with
      | some l => Own 3 w' w.heap.size X' c' l → k (.tuple #[.slice X' l.length c', .bool true]) w'
      | none => k (.tuple #[.slice none 0 0, .bool false]) w') :
    CallK Try.prog 25 [.slice X xs.length c, .slice Y cs.length d, .int .i64 many] k w := by
  refine enter25 ?_
  unfold S25
  refine implPumpWord_c hx hc hy fun X' c' w' g => ?_
  have := hk X' c' w' g
  cases e : pumpW xs cs many with
  | none =>
    rw [e] at this
    simp only [go_sem, Nat.reduceEqDiff]
    exact this
  | some l =>
    rw [e] at this
    simp only [go_sem, Nat.reduceEqDiff]
    exact this
end Go.Proofs.Ytiohaeckagjebaa

/- The law of PumpWord, over its contracts. -/
set_option linter.unusedVariables false
set_option linter.unusedSimpArgs false
set_option maxRecDepth 100000
namespace Go.Proofs.Ytiohaeckagjebaa
open Go Go.Sh Go.RowKit

theorem specPumpWord_u {w : World} {X Y : Option Addr} {c d : Nat} {xs cs : List Int} {many : Int} (hx : Ints w X xs) (hc : xs.length ≤ c) (hy : Ints w Y cs) {k : Value → World → Prop}
    (hk : ∀ X' c' w', Gr w w' → Own 3 w' w.heap.size X' c' ((pumpW xs cs many).getD []) → k (.tuple #[.slice X' ((pumpW xs cs many).getD []).length c', .bool (pumpW xs cs many).isSome]) w') :
    CallK Try.prog 23 [.slice X xs.length c, .slice Y cs.length d, .int .i64 many] k w := by
  refine specPumpWord_c hx hc hy fun X' c' w' g => ?_
  cases h : pumpW xs cs many with
  | none =>
    rw [h] at hk
    exact hk none 0 w' g (Row.nil _ _ _ _)
  | some l =>
    intro ho
    rw [h] at hk
    exact hk X' c' w' g ho
theorem implPumpWord_u {w : World} {X Y : Option Addr} {c d : Nat} {xs cs : List Int} {many : Int} (hx : Ints w X xs) (hc : xs.length ≤ c) (hy : Ints w Y cs) {k : Value → World → Prop}
    (hk : ∀ X' c' w', Gr w w' → Own 3 w' w.heap.size X' c' ((pumpW xs cs many).getD []) → k (.tuple #[.slice X' ((pumpW xs cs many).getD []).length c', .bool (pumpW xs cs many).isSome]) w') :
    CallK Try.prog 25 [.slice X xs.length c, .slice Y cs.length d, .int .i64 many] k w := by
  refine ImplPumpWord_c hx hc hy fun X' c' w' g => ?_
  cases h : pumpW xs cs many with
  | none =>
    rw [h] at hk
    exact hk none 0 w' g (Row.nil _ _ _ _)
  | some l =>
    intro ho
    rw [h] at hk
    exact hk X' c' w' g ho
theorem pumpW_le (xs cs : List Int) (many : Int) : ((pumpW xs cs many).getD []).length ≤ 60 := by
  unfold pumpW
  split
  · split
    · simpa
    · simp
  · simp

theorem law_PumpWord {w : World} {X Y : Option Addr} {c d : Nat} {xs cs : List Int} {many : Int} (hx : Ints w X xs) (hc : xs.length ≤ c) (hy : Ints w Y cs) (hd : cs.length ≤ d) {k : Value → World → Prop} (hk : ∀ w', Gr w w' → k (.bool true) w') :
    CallK Try.prog 3 [.slice X xs.length c, .slice Y cs.length d, .int .i64 many] k w := by
  refine enter3 ?_
  unfold S3
  simp only [go_sem, Nat.reduceEqDiff]
  refine cond_split (fun _ => hk w (Gr.refl w)) fun h1 => ?_
  refine cond_split (fun _ => hk w (Gr.refl w)) fun h2 => ?_
  have hxl' : (xs.length : Int) ≤ 1048576 := by simpa using h1
  have hxl : xs.length ≤ 1048576 := by omega
  have hyl' : (cs.length : Int) ≤ 1048576 := by simpa using h2
  have hyl : cs.length ≤ 1048576 := by omega
  clear h1 h2 hxl' hyl'
  refine toIntS_c hx rfl (by omega) fun X1 c1 w1 g1 o1 => ?_
  refine toIntS_c (hy.gr g1) rfl (by omega) fun Y1 d1 w2 g2 p1 => ?_
  have G2 := gr_trans g1 g2
  refine specPumpWord_u (Own.ints (Row.gr o1 g2)) (Row.cap o1).1 (Own.ints p1) fun Z1 e1 w3 g3 r1 => ?_
  have G3 := gr_trans G2 g3
  simp only [go_sem, Nat.reduceEqDiff]
  generalize hL : (pumpW xs cs many).getD [] = L at *
  generalize hok : (pumpW xs cs many).isSome = ok at *
  have hLl : L.length ≤ 60 := hL ▸ pumpW_le xs cs many
  refine toIntS_c (hx.gr G3) rfl (by omega) fun X2 c2 w4 g4 o2 => ?_
  refine toIntS_c (hy.gr (gr_trans G3 g4)) rfl (by omega) fun Y2 d2 w5 g5 p2 => ?_
  have G5 := gr_trans (gr_trans G3 g4) g5
  refine implPumpWord_u (Own.ints (Row.gr o2 g5)) (Row.cap o2).1 (Own.ints p2) fun Z2 e2 w6 g6 r2 => ?_
  rw [hL] at r2 ⊢
  rw [hok]
  have G6 := gr_trans G5 g6
  have R1 : Own 3 w6 w2.heap.size Z1 e1 L := Row.gr r1 (gr_trans (gr_trans g4 g5) g6)
  have O2 : Own 3 w6 w3.heap.size X2 c2 xs := Row.gr o2 (gr_trans g5 g6)
  have P2 : Own 3 w6 w4.heap.size Y2 d2 cs := Row.gr p2 g6
  simp only [go_sem, Nat.reduceEqDiff]
  refine eqIntS_c (Own.ints r2) (Own.ints R1) fun w7 g7 => ?_
  simp only [decide_true, Bool.not_true, beq_self_eq_true, go_sem, Nat.reduceEqDiff]
  rw [bin_neq_bool (by kernel_rfl)]
  simp only [beq_self_eq_true, Bool.not_true, go_sem, Nat.reduceEqDiff]
  refine toIntS_c (hx.gr (gr_trans G6 g7)) rfl (by omega) fun X3 c3 w8 g8 o3 => ?_
  refine eqIntS_c ((Own.ints (Row.gr O2 (gr_trans g7 g8)))) (Own.ints o3) fun w9 g9 => ?_
  simp only [decide_true, Bool.not_true, go_sem, Nat.reduceEqDiff]
  refine toIntS_c (hy.gr (gr_trans (gr_trans (gr_trans G6 g7) g8) g9)) rfl (by omega) fun Y3 d3 w10 g10 p3 => ?_
  have H6 := gr_trans (gr_trans (gr_trans g7 g8) g9) g10
  refine eqIntS_c ((Own.ints (Row.gr P2 H6))) (Own.ints p3) fun w11 g11 => ?_
  simp only [decide_true, Bool.not_true, go_sem, Nat.reduceEqDiff]
  have H6' := gr_trans H6 g11
  have O2' := Row.gr O2 H6'
  have P2' := Row.gr P2 H6'
  have R1' := Row.gr R1 H6'
  have r2' := Row.gr r2 H6'
  refine markIntS_c O2' rfl (by decide) (by omega) fun w12 m12 O12 => ?_
  have P12 := Row.kept P2' m12 (apart' o2 P2' (Nat.le_refl _))
  have R12 := Row.kept R1' m12 (apart r1 O2' (Nat.le_refl _))
  have r12 := Row.kept r2' m12 (apart' (Row.gr o2 g5) r2' (Nat.le_refl _))
  refine markIntS_c P12 rfl (by omega) (by omega) fun w13 m13 P13 => ?_
  have R13 := Row.kept R12 m13 (apart (Row.gr r1 g4) P12 (Nat.le_refl _))
  have r13 := Row.kept r12 m13 (apart' p2 r12 (Nat.le_refl _))
  have G13 : Gr w w13 := by
    have a := gr_trans (gr_trans G6 H6') (Gr.refl w11)
    have b := gr_mod a m12 fun q hq => Nat.le_trans G3.size (Row.ge O2' hq).1
    exact gr_mod b m13 fun q hq => Nat.le_trans (gr_trans G3 g4).size (Row.ge P12 hq).1
  simp only [show ¬ (1 : Int) + xs.length + cs.length < 0 by omega, decide_false, go_sem, Nat.reduceEqDiff]
  refine eqIntS_c (Own.ints r13) (Own.ints R13) fun w14 g14 => ?_
  simp only [decide_true, Bool.not_true, beq_self_eq_true, go_sem, Nat.reduceEqDiff]
  rw [bin_neq_bool (by kernel_rfl)]
  simp only [beq_self_eq_true, Bool.not_true, go_sem, Nat.reduceEqDiff]
  have r14 := Row.gr r13 g14
  have R14 := Row.gr R13 g14
  refine markIntS_c r14 rfl (by decide) (by omega) fun w15 m15 q15 => ?_
  have R15 := Row.kept R14 m15 (apart (Row.gr r1 (gr_trans g4 g5)) r14 (Nat.le_refl _))
  have G15 : Gr w w15 := gr_mod (gr_trans G13 g14) m15 fun q hq => Nat.le_trans G5.size (Row.ge r14 hq).1
  refine heldIntS_c (Own.ints q15) rfl (by decide) (by omega) fun w16 g16 => ?_
  simp only [show ¬ (1 : Int) + L.length < 0 by omega, decide_false, decide_true, Bool.not_true, go_sem, Nat.reduceEqDiff]
  have G16 := gr_trans G15 g16
  refine toIntS_c (hx.gr G16) rfl (by omega) fun X4 c4 w17 g17 o4 => ?_
  refine toIntS_c (hy.gr (gr_trans G16 g17)) rfl (by omega) fun Y4 d4 w18 g18 p4 => ?_
  refine implPumpWord_u (Own.ints (Row.gr o4 g18)) (Row.cap o4).1 (Own.ints p4) fun Z3 e3 w19 g19 r3 => ?_
  rw [hL] at r3 ⊢
  rw [hok]
  have H15 := gr_trans (gr_trans (gr_trans g16 g17) g18) g19
  simp only [go_sem, Nat.reduceEqDiff]
  refine eqIntS_c (Own.ints r3) (Own.ints (Row.gr R15 H15)) fun w20 g20 => ?_
  simp only [decide_true, Bool.not_true, beq_self_eq_true, go_sem, Nat.reduceEqDiff]
  rw [bin_neq_bool (by kernel_rfl)]
  simp only [beq_self_eq_true, Bool.not_true, go_sem, Nat.reduceEqDiff]
  refine heldIntS_c (Own.ints (Row.gr q15 (gr_trans H15 g20))) rfl (by decide) (by omega) fun w21 g21 => ?_
  simp only [show ¬ (1 : Int) + L.length < 0 by omega, decide_false, decide_true, Bool.not_true, go_sem, Nat.reduceEqDiff]
  exact hk w21 (gr_trans (gr_trans (gr_trans G15 H15) g20) g21)
end Go.Proofs.Ytiohaeckagjebaa

/- Contracts: words of tokens, by the reference and by the program; what can be pumped at given places. -/
set_option linter.unusedVariables false
set_option linter.unusedSimpArgs false
set_option maxRecDepth 100000
namespace Go.Sh
open Go
def wordB (toks : Int) (ws : List Int) : Bool := decide (ws.length ≤ 10) && allB ws 0 (toks - 1)
theorem wordB_len {toks : Int} {ws : List Int} (h : wordB toks ws = true) : ws.length ≤ 10 := by
  simp only [wordB, Bool.and_eq_true, decide_eq_true_eq] at h
  exact h.1
theorem wordB_tok {toks : Int} {ws : List Int} (h : wordB toks ws = true) (ht : toks ≤ 4) : ∀ t ∈ ws, 0 ≤ t ∧ t ≤ 100 := fun t hm => by
  simp only [wordB, Bool.and_eq_true, decide_eq_true_eq, allB, List.all_eq_true, inB] at h
  have := h.2 t hm
  omega
theorem mem_seg {xs : List Int} {a b x : Int} (h : x ∈ seg xs a b) : x ∈ xs := List.mem_of_mem_drop (List.mem_of_mem_take h)
theorem mem_rep {m : Nat} {l : List Int} {x : Int} (h : x ∈ rep m l) : x ∈ l := by
  unfold rep at h
  rw [List.mem_flatten] at h
  obtain ⟨l', h1, h2⟩ := h
  rw [List.eq_of_mem_replicate h1] at h2
  exact h2
theorem mem_pumpL {xs cs : List Int} {m : Nat} {x : Int} (h : x ∈ pumpL xs cs m) : x ∈ xs := by
  unfold pumpL at h
  rcases List.mem_append.1 h with h | h
  · rcases List.mem_append.1 h with h | h
    · rcases List.mem_append.1 h with h | h
      · rcases List.mem_append.1 h with h | h
        · exact mem_seg h
        · exact mem_seg (mem_rep h)
      · exact mem_seg h
    · exact mem_seg (mem_rep h)
  · exact mem_seg h
/-- Whether what is pumped so many times is told of. -/
def fineP (ws cs : List Int) (k : Nat) : Bool := match pumpW ws cs k with
  | some x => decide (x.length ≤ 10)
  | none => false
noncomputable def isPumpV (gm : Gram) (ws cs : List Int) (m : Int) : Bool × Bool :=
  if (goodG gm && wordB gm.toks ws) = true ∧ Cuts cs ws.length ∧ ¬ (cs.getD 0 0 = cs.getD 1 0 ∧ cs.getD 2 0 = cs.getD 3 0) ∧ inB m 0 4 = true then
    (if (List.range (m.toNat + 1)).all (fineP ws cs) = true then ((List.range (m.toNat + 1)).all (fun k => inL gm.rules (pumpL ws cs k)), true) else (false, false))
  else (false, false)
theorem pumpW_eq {xs cs : List Int} {m : Int} {x : List Int} (h : pumpW xs cs m = some x) : x = pumpL xs cs m.toNat := by
  unfold pumpW at h
  split at h
  · split at h
    · exact (Option.some.inj h).symm
    · cases h
  · cases h
theorem range_all_succ {p : Nat → Bool} {n : Nat} : (List.range (n + 1)).all p = ((List.range n).all p && p n) := by
  rw [List.range_succ, List.all_append]
  simp
theorem fineP_cuts {ws cs : List Int} {k : Nat} (h : fineP ws cs k = true) : Cuts cs ws.length := by
  unfold fineP at h
  cases hp : pumpW ws cs k with
  | none => rw [hp] at h; cases h
  | some x =>
    unfold pumpW at hp
    split at hp
    · rename_i hh
      exact hh.2.2.1
    · cases hp
theorem range_all_not {p : Nat → Bool} {n i : Nat} (hi : i < n) (h : p i = false) : (List.range n).all p = false := by
  rw [List.all_eq_false]
  exact ⟨i, List.mem_range.2 hi, by rw [h]; decide⟩
end Go.Sh
namespace Go.Proofs.Ytiohaeckagjebaa
open Go Go.Sh Go.RowKit

theorem l1Word_c {F : Nat → Prop} {w : World} {v : Value} {gm : Gram} {X : Option Addr} {n cx : Nat} {ws : List Int} (hv : GramV F w v gm) (hg : goodG gm = true) (hX : Ints w X ws) (hn : n = ws.length) {k : Value → World → Prop} (hk : ∀ w', Gr w w' → k (.bool (wordB gm.toks ws)) w') :
    CallK Try.prog 112 [v, .slice X n cx] k w := by
  subst hn
  obtain ⟨Y, cy, rfl, hc, hy⟩ := hv
  have ht := good_toks hg
  refine enter112 ?_
  unfold S112
  have H := Apt.nil w
  refine boxH H fun b1 w1 H => ?_
  simp only [go_sem, Nat.reduceEqDiff]
  unfold wordB at hk
  by_cases hl : ws.length ≤ 10
  case neg =>
    simp only [show ¬ ((ws.length : Int) ≤ 10) from by omega, decide_false, go_sem, Nat.reduceEqDiff]
    simpa only [hl, decide_false, Bool.false_and] using hk _ H.gr
  simp only [show ((ws.length : Int) ≤ 10) from by omega, decide_true, go_sem, Nat.reduceEqDiff]
  rw [ldB3 (H.box 0 rfl) rfl]
  simp only [go_sem, Nat.reduceEqDiff]
  rw [i64_of (by omega) (by omega)]
  refine l1All_c (hX.gr H.gr) fun w2 g2 => ?_
  have H := H.step g2
  simpa only [hl, decide_true, Bool.true_and] using hk _ H.gr
theorem goodWord_c {F : Nat → Prop} {w : World} {v : Value} {gm : Gram} {X : Option Addr} {n cx : Nat} {ws : List Int} (hv : GramV F w v gm) (hX : Ints w X ws) (hn : n = ws.length) {k : Value → World → Prop} (hk : ∀ w', Gr w w' → k (.bool (goodG gm && wordB gm.toks ws)) w') :
    CallK Try.prog 101 [v, .slice X n cx] k w := by
  subst hn
  obtain ⟨Y, cy, rfl, hc, hy⟩ := hv
  refine enter101 ?_
  unfold S101
  have H := Apt.nil w
  refine boxH H fun b1 w1 H => ?_
  rw [ldB_agg agg37 sz37 rfl (H.box 0 rfl)]
  refine goodGrammar_c (gm := gm) ⟨Y, cy, rfl, hc, hy.gr H.gr⟩ fun w2 g2 => ?_
  have H := H.step g2
  cases hg : goodG gm
  · simp only [go_sem, Nat.reduceEqDiff]
    simpa only [hg, Bool.false_and] using hk _ H.gr
  simp only [go_sem, Nat.reduceEqDiff]
  rw [ldB_agg agg37 sz37 rfl (H.box 0 rfl)]
  refine l1Word_c (gm := gm) ⟨Y, cy, rfl, hc, hy.gr H.gr⟩ hg (hX.gr H.gr) rfl fun w3 g3 => ?_
  have H := H.step g3
  simpa only [hg, Bool.true_and] using hk _ H.gr
theorem isWord1_c {x toks : Int} {w : World} {b t : Nat} (hB : Box w b [.int .i64 toks] t) (h1 : 1 ≤ toks) (h4 : toks ≤ 4) {k : Value → World → Prop} (hk : k (.bool (!inB x 0 (toks - 1))) w) : CallK Try.prog 146 [.int .i64 x, ptrv b] k w := by
  refine enter146 ?_
  unfold S146
  rw [ldB3 hB rfl]
  simp only [go_sem, Nat.reduceEqDiff]
  rw [i64_of (by omega) (by omega)]
  refine in_c ?_
  simp only [go_sem, Nat.reduceEqDiff]
  exact hk
theorem isWord_c {w : World} {X : Option Addr} {n cx : Nat} {toks : Int} {ws : List Int} (hX : Ints w X ws) (hn : n = ws.length) (h1 : 1 ≤ toks) (h4 : toks ≤ 4) {k : Value → World → Prop} (hk : ∀ w', Gr w w' → k (.bool (wordB toks ws)) w') :
    CallK Try.prog 99 [.int .i64 toks, .slice X n cx] k w := by
  subst hn
  refine enter99 ?_
  unfold S99
  have H := Apt.nil w
  refine boxH H fun b1 w1 H => ?_
  simp only [go_sem, Nat.reduceEqDiff]
  unfold wordB at hk
  by_cases hl : ws.length ≤ 10
  case neg =>
    simp only [show ¬ ((ws.length : Int) ≤ 10) from by omega, decide_false, go_sem, Nat.reduceEqDiff]
    simpa only [hl, decide_false, Bool.false_and] using hk _ H.gr
  simp only [show ((ws.length : Int) ≤ 10) from by omega, decide_true, go_sem, Nat.reduceEqDiff]
  have hb : Box w1 b1 [.int .i64 toks] 3 := H.box 0 rfl
  have hp : Pred 4 (.func (.func 146) [].toArray [ptrv b1].toArray) (fun x => !inB x 0 (toks - 1)) w1 := fun w3 g3 x k hk =>
    callVc (isWord1_c (hb.gr g3) h1 h4 (hk w3 (Gr.refl w3)))
  refine containsFunc_c (hX.gr H.gr) hp fun w3 g3 => ?_
  have H := H.step g3
  simp only [go_sem, Nat.reduceEqDiff]
  have := hk _ H.gr
  simp only [hl, decide_true, Bool.true_and] at this
  rwa [show allB ws 0 (toks - 1) = !ws.any (fun x => !inB x 0 (toks - 1)) from by simp [allB, List.not_any_eq_all_not]] at this
theorem specIsPump_c {F : Nat → Prop} {w : World} {v : Value} {gm : Gram} {X C : Option Addr} {n cx nc cc : Nat} {ws cs : List Int} {m : Int} (hv : GramV F w v gm) (hX : Ints w X ws) (hn : n = ws.length) (hcx : ws.length ≤ cx) (hC : Ints w C cs) (hnc : nc = cs.length) {k : Value → World → Prop}
    (hk : ∀ w', Gr w w' → k (.tuple #[.bool (isPumpV gm ws cs m).1, .bool (isPumpV gm ws cs m).2]) w') : CallK Try.prog 51 [v, .slice X n cx, .slice C nc cc, .int .i64 m] k w := by
  subst hn hnc
  obtain ⟨Y, cy, rfl, hc, hy⟩ := hv
  refine enter51 ?_
  unfold S51
  have H := Apt.nil w
  refine boxH H fun b1 w1 H => ?_
  have H := H.drew
  refine ⟨fun w' => Gr w1.drew w', Gr.refl _, ?_⟩
  rw [rdG_agg agg37 sz37 rfl (H.box 0 rfl)]
  have G0 := H.gr
  refine goodWord_c (gm := gm) ⟨Y, cy, rfl, hc, hy.gr H.gr⟩ (hX.gr H.gr) rfl fun w2 g2 => ?_
  refine ⟨g2, ?_⟩
  have H := H.step g2
  have no : ¬ ((goodG gm && wordB gm.toks ws) = true ∧ Cuts cs ws.length ∧ ¬ (cs.getD 0 0 = cs.getD 1 0 ∧ cs.getD 2 0 = cs.getD 3 0) ∧ inB m 0 4 = true) → ∀ w', Gr w w' → k (.tuple #[.bool false, .bool false]) w' := fun h w' g => by
    have := hk w' g
    rwa [isPumpV, if_neg h] at this
  cases hgw : goodG gm && wordB gm.toks ws
  · simp only [Bool.not_false, go_sem, Nat.reduceEqDiff]
    exact ⟨g2, no (fun h => by rw [hgw] at h; exact absurd h.1 Bool.false_ne_true) _ H.gr⟩
  simp only [Bool.not_true, go_sem, Nat.reduceEqDiff]
  refine l18Cuts_c (hC.gr H.gr) fun w3 g3 => ?_
  refine ⟨gr_trans g2 g3, ?_⟩
  have H := H.step g3
  by_cases hcuts : Cuts cs ws.length
  case neg =>
    simp only [hcuts, decide_false, Bool.not_false, go_sem, Nat.reduceEqDiff]
    exact no (fun h => hcuts h.2.1) _ H.gr
  simp only [hcuts, decide_true, Bool.not_true, go_sem, Nat.reduceEqDiff]
  have hc4 := hcuts.len
  have hCp : C = some (ad C) := hC.ptr (by omega)
  have rdc : ∀ (j : Nat), j < 4 → ∀ w', Gr w1.drew w' → w'.cell? ((ad C).add j) = some (.int .i64 (cs.getD j 0)) := fun j hj w' g' => (hC.gr (gr_trans G0 g')).cell j (by omega)
  rw [ix22_0 (fun _ => hCp) (by omega), ldS3 (fun w' g' => rdc 0 (by decide) w' g'), ix22_1 (fun _ => hCp) (by omega), ldS3 (fun w' g' => rdc 1 (by decide) w' g')]
  simp only [go_sem, Nat.reduceEqDiff]
  have hg1 : goodG gm = true := by
    simp only [Bool.and_eq_true] at hgw
    exact hgw.1
  by_cases h01 : cs.getD 0 0 = cs.getD 1 0
  · simp only [h01, decide_true, go_sem, Nat.reduceEqDiff]
    rw [ix22_2 (fun _ => hCp) (by omega), ldS3 (fun w' g' => rdc 2 (by decide) w' g'), ix22_3 (fun _ => hCp) (by omega), ldS3 (fun w' g' => rdc 3 (by decide) w' g')]
    simp only [go_sem, Nat.reduceEqDiff]
    by_cases h23 : cs.getD 2 0 = cs.getD 3 0
    · simp only [h23, decide_true, go_sem, Nat.reduceEqDiff]
      exact no (fun h => h.2.2.1 ⟨h01, h23⟩) _ H.gr
    simp only [h23, decide_false, go_sem, Nat.reduceEqDiff]
    have hd : ¬ (cs.getD 0 0 = cs.getD 1 0 ∧ cs.getD 2 0 = cs.getD 3 0) := fun h => h23 h.2
    refine l1In_c ?_
    cases hm : inB m 0 4
    · simp only [Bool.not_false, go_sem, Nat.reduceEqDiff]
      exact no (fun h => by rw [hm] at h; exact absurd h.2.2.2 Bool.false_ne_true) _ H.gr
    have hV : isPumpV gm ws cs m = (if (List.range (m.toNat + 1)).all (fineP ws cs) = true then ((List.range (m.toNat + 1)).all (fun k => inL gm.rules (pumpL ws cs k)), true) else (false, false)) := by
      rw [isPumpV, if_pos ⟨hgw, hcuts, hd, hm⟩]
    rw [hV] at hk
    obtain ⟨m, rfl⟩ : ∃ m' : Nat, m = m' := by
      simp only [inB, Bool.and_eq_true, decide_eq_true_eq] at hm
      exact ⟨m.toNat, by omega⟩
    have hm4 : m ≤ 4 := by
      simp only [inB, Bool.and_eq_true, decide_eq_true_eq] at hm
      omega
    rw [Int.toNat_natCast] at hk
    simp only [Bool.not_true, go_sem, Nat.reduceEqDiff]
    refine loop_to (m + 1) 0 (fun r f w' => r ≤ m + 1 ∧ f 11 = .int .i64 r ∧ (∀ r', r' < r → fineP ws cs r' = true) ∧ f 10 = .bool ((List.range r).all (fun k => inL gm.rules (pumpL ws cs k))) ∧ Apt w w' [bx b1 [.int .i64 gm.nons, .int .i64 gm.toks, .slice Y gm.rules.length cy] 37]) ⟨Nat.zero_le _, rfl, fun r' h => absurd h (Nat.not_lt_zero _), rfl, H⟩ ?_
    rintro r f w5 N hag ⟨hr, h11, hfine, h10, H⟩ hN
    have f1 : f 1 = .slice X ws.length cx := hag 1 (by decide)
    have f2 : f 2 = .slice C cs.length cc := hag 2 (by decide)
    have f3 : f 3 = .int .i64 m := hag 3 (by decide)
    have f4 : f 4 = ptrv b1 := hag 4 (by decide)
    simp only [f1, f2, f3, f4, h11, h10, go_sem, Nat.reduceEqDiff]
    by_cases hlt : r ≤ m
    case neg =>
      simp only [show ¬ ((r : Int) ≤ m) from by omega, decide_false, go_sem, Nat.reduceEqDiff]
      obtain rfl : r = m + 1 := by omega
      rw [if_pos (range_all fun j hj => hfine j hj)] at hk
      exact hk _ H.gr
    simp only [show ((r : Int) ≤ m) from by omega, decide_true, go_sem, Nat.reduceEqDiff]
    have bad : fineP ws cs r = false → ∀ w', Gr w w' → k (.tuple #[.bool false, .bool false]) w' := fun hf w' g => by
      have := hk w' g
      rwa [if_neg (by rw [range_all_not (i := r) (by omega) hf]; exact Bool.false_ne_true)] at this
    have G5 := H.gr
    refine specPumpWord_c (hX.gr H.gr) hcx (hC.gr H.gr) fun X' c' w6 g6 => ?_
    have H := H.step g6
    cases hp : pumpW ws cs r with
    | none =>
      simp only [Bool.not_false, go_sem, Nat.reduceEqDiff]
      exact bad (by simp only [fineP, hp]) _ H.gr
    | some x =>
      dsimp only
      intro o
      simp only [Bool.not_true, go_sem, Nat.reduceEqDiff]
      have hxe := pumpW_eq hp
      rw [Int.toNat_natCast] at hxe
      by_cases hx10 : x.length ≤ 10
      case neg =>
        simp only [show ((10 : Int) < x.length) from by omega, decide_true, go_sem, Nat.reduceEqDiff]
        exact bad (by simp only [fineP, hp, hx10, decide_false]) _ H.gr
      simp only [show ¬ ((10 : Int) < x.length) from by omega, decide_false, go_sem, Nat.reduceEqDiff]
      have hf : fineP ws cs r = true := by simp only [fineP, hp, hx10, decide_true]
      have hfine' : ∀ r', r' < r + 1 → fineP ws cs r' = true := fun r' h => by
        by_cases e : r' = r
        · rw [e]; exact hf
        · exact hfine r' (by omega)
      cases hacc : (List.range r).all (fun k => inL gm.rules (pumpL ws cs k))
      · simp only [go_sem, Nat.reduceEqDiff]
        rw [i64_of (by omega) (by omega)]
        exact hN _ _ (by omega) ⟨by omega, rfl, hfine', by rw [range_all_succ, hacc]; rfl, H⟩
      · simp only [go_sem, Nat.reduceEqDiff]
        rw [ldB_agg agg37 sz37 rfl (H.box 0 rfl)]
        refine l4In_c (gm := gm) ⟨Y, cy, rfl, hc, hy.gr H.gr⟩ hg1 (Own.ints o) rfl hx10 fun w7 g7 => ?_
        have H := H.step g7
        rw [i64_of (by omega) (by omega)]
        exact hN _ _ (by omega) ⟨by omega, rfl, hfine', by rw [range_all_succ, hacc, ← hxe]; rfl, H⟩

  · simp only [h01, decide_false, go_sem, Nat.reduceEqDiff]
    have hd : ¬ (cs.getD 0 0 = cs.getD 1 0 ∧ cs.getD 2 0 = cs.getD 3 0) := fun h => h01 h.1
    refine l1In_c ?_
    cases hm : inB m 0 4
    · simp only [Bool.not_false, go_sem, Nat.reduceEqDiff]
      exact no (fun h => by rw [hm] at h; exact absurd h.2.2.2 Bool.false_ne_true) _ H.gr
    have hV : isPumpV gm ws cs m = (if (List.range (m.toNat + 1)).all (fineP ws cs) = true then ((List.range (m.toNat + 1)).all (fun k => inL gm.rules (pumpL ws cs k)), true) else (false, false)) := by
      rw [isPumpV, if_pos ⟨hgw, hcuts, hd, hm⟩]
    rw [hV] at hk
    obtain ⟨m, rfl⟩ : ∃ m' : Nat, m = m' := by
      simp only [inB, Bool.and_eq_true, decide_eq_true_eq] at hm
      exact ⟨m.toNat, by omega⟩
    have hm4 : m ≤ 4 := by
      simp only [inB, Bool.and_eq_true, decide_eq_true_eq] at hm
      omega
    rw [Int.toNat_natCast] at hk
    simp only [Bool.not_true, go_sem, Nat.reduceEqDiff]
    refine loop_to (m + 1) 0 (fun r f w' => r ≤ m + 1 ∧ f 11 = .int .i64 r ∧ (∀ r', r' < r → fineP ws cs r' = true) ∧ f 10 = .bool ((List.range r).all (fun k => inL gm.rules (pumpL ws cs k))) ∧ Apt w w' [bx b1 [.int .i64 gm.nons, .int .i64 gm.toks, .slice Y gm.rules.length cy] 37]) ⟨Nat.zero_le _, rfl, fun r' h => absurd h (Nat.not_lt_zero _), rfl, H⟩ ?_
    rintro r f w5 N hag ⟨hr, h11, hfine, h10, H⟩ hN
    have f1 : f 1 = .slice X ws.length cx := hag 1 (by decide)
    have f2 : f 2 = .slice C cs.length cc := hag 2 (by decide)
    have f3 : f 3 = .int .i64 m := hag 3 (by decide)
    have f4 : f 4 = ptrv b1 := hag 4 (by decide)
    simp only [f1, f2, f3, f4, h11, h10, go_sem, Nat.reduceEqDiff]
    by_cases hlt : r ≤ m
    case neg =>
      simp only [show ¬ ((r : Int) ≤ m) from by omega, decide_false, go_sem, Nat.reduceEqDiff]
      obtain rfl : r = m + 1 := by omega
      rw [if_pos (range_all fun j hj => hfine j hj)] at hk
      exact hk _ H.gr
    simp only [show ((r : Int) ≤ m) from by omega, decide_true, go_sem, Nat.reduceEqDiff]
    have bad : fineP ws cs r = false → ∀ w', Gr w w' → k (.tuple #[.bool false, .bool false]) w' := fun hf w' g => by
      have := hk w' g
      rwa [if_neg (by rw [range_all_not (i := r) (by omega) hf]; exact Bool.false_ne_true)] at this
    have G5 := H.gr
    refine specPumpWord_c (hX.gr H.gr) hcx (hC.gr H.gr) fun X' c' w6 g6 => ?_
    have H := H.step g6
    cases hp : pumpW ws cs r with
    | none =>
      simp only [Bool.not_false, go_sem, Nat.reduceEqDiff]
      exact bad (by simp only [fineP, hp]) _ H.gr
    | some x =>
      dsimp only
      intro o
      simp only [Bool.not_true, go_sem, Nat.reduceEqDiff]
      have hxe := pumpW_eq hp
      rw [Int.toNat_natCast] at hxe
      by_cases hx10 : x.length ≤ 10
      case neg =>
        simp only [show ((10 : Int) < x.length) from by omega, decide_true, go_sem, Nat.reduceEqDiff]
        exact bad (by simp only [fineP, hp, hx10, decide_false]) _ H.gr
      simp only [show ¬ ((10 : Int) < x.length) from by omega, decide_false, go_sem, Nat.reduceEqDiff]
      have hf : fineP ws cs r = true := by simp only [fineP, hp, hx10, decide_true]
      have hfine' : ∀ r', r' < r + 1 → fineP ws cs r' = true := fun r' h => by
        by_cases e : r' = r
        · rw [e]; exact hf
        · exact hfine r' (by omega)
      cases hacc : (List.range r).all (fun k => inL gm.rules (pumpL ws cs k))
      · simp only [go_sem, Nat.reduceEqDiff]
        rw [i64_of (by omega) (by omega)]
        exact hN _ _ (by omega) ⟨by omega, rfl, hfine', by rw [range_all_succ, hacc]; rfl, H⟩
      · simp only [go_sem, Nat.reduceEqDiff]
        rw [ldB_agg agg37 sz37 rfl (H.box 0 rfl)]
        refine l4In_c (gm := gm) ⟨Y, cy, rfl, hc, hy.gr H.gr⟩ hg1 (Own.ints o) rfl hx10 fun w7 g7 => ?_
        have H := H.step g7
        rw [i64_of (by omega) (by omega)]
        exact hN _ _ (by omega) ⟨by omega, rfl, hfine', by rw [range_all_succ, hacc, ← hxe]; rfl, H⟩

theorem implIsPump_c {F : Nat → Prop} {w : World} {v : Value} {gm : Gram} {X C : Option Addr} {n cx nc cc : Nat} {ws cs : List Int} {m : Int} (hv : GramV F w v gm) (hX : Ints w X ws) (hn : n = ws.length) (hcx : ws.length ≤ cx) (hC : Ints w C cs) (hnc : nc = cs.length) {k : Value → World → Prop}
    (hk : ∀ w', Gr w w' → k (.tuple #[.bool (isPumpV gm ws cs m).1, .bool (isPumpV gm ws cs m).2]) w') : CallK Try.prog 52 [v, .slice X n cx, .slice C nc cc, .int .i64 m] k w := by
  subst hn hnc
  obtain ⟨Y, cy, rfl, hc, hy⟩ := hv
  refine enter52 ?_
  unfold S52
  have H := Apt.nil w
  refine boxH H fun b1 w1 H => ?_
  have H := H.drew
  refine ⟨fun w' => Gr w1.drew w', Gr.refl _, ?_⟩
  rw [rdG_agg agg37 sz37 rfl (H.box 0 rfl)]
  have G0 := H.gr
  have hb1 : Box w1.drew b1 [.int .i64 gm.nons, .int .i64 gm.toks, .slice Y gm.rules.length cy] 37 := H.box 0 rfl
  refine isGrammar_c (gm := gm) ⟨Y, cy, rfl, hc, hy.gr H.gr⟩ fun w2 g2 => ?_
  refine ⟨g2, ?_⟩
  have H := H.step g2
  have no : ¬ ((goodG gm && wordB gm.toks ws) = true ∧ Cuts cs ws.length ∧ ¬ (cs.getD 0 0 = cs.getD 1 0 ∧ cs.getD 2 0 = cs.getD 3 0) ∧ inB m 0 4 = true) → ∀ w', Gr w w' → k (.tuple #[.bool false, .bool false]) w' := fun h w' g => by
    have := hk w' g
    rwa [isPumpV, if_neg h] at this
  cases hg1 : goodG gm
  · simp only [Bool.not_false, go_sem, Nat.reduceEqDiff]
    exact ⟨g2, no (fun h => by rw [hg1, Bool.false_and] at h; exact absurd h.1 Bool.false_ne_true) _ H.gr⟩
  simp only [Bool.not_true, go_sem, Nat.reduceEqDiff]
  have ht := good_toks hg1
  rw [rdG one3 hb1 rfl]
  refine isWord_c (hX.gr H.gr) rfl ht.1 ht.2 fun w3 g3 => ?_
  refine ⟨gr_trans g2 g3, ?_⟩
  have H := H.step g3
  cases hw1 : wordB gm.toks ws
  · simp only [Bool.not_false, go_sem, Nat.reduceEqDiff]
    exact no (fun h => by rw [hw1, Bool.and_false] at h; exact absurd h.1 Bool.false_ne_true) _ H.gr
  have hgw : (goodG gm && wordB gm.toks ws) = true := by rw [hg1, hw1]; rfl
  have hlen := wordB_len hw1
  have htok := wordB_tok hw1 ht.2
  simp only [Bool.not_true, go_sem, Nat.reduceEqDiff]
  by_cases hc4 : cs.length = 4
  case neg =>
    simp only [show ¬ ((cs.length : Int) = 4) from by omega, decide_false, Bool.not_false, go_sem, Nat.reduceEqDiff]
    exact no (fun h => hc4 h.2.1.len) _ H.gr
  simp only [show ((cs.length : Int) = 4) from by omega, decide_true, Bool.not_true, go_sem, Nat.reduceEqDiff]
  have hCp : C = some (ad C) := hC.ptr (by omega)
  have rdc : ∀ (j : Nat), j < 4 → ∀ w', Gr w1.drew w' → w'.cell? ((ad C).add j) = some (.int .i64 (cs.getD j 0)) := fun j hj w' g' => (hC.gr (gr_trans G0 g')).cell j (by omega)
  rw [ix22_0 (fun _ => hCp) (by omega), ldS3 (fun w' g' => rdc 0 (by decide) w' g'), ix22_1 (fun _ => hCp) (by omega), ldS3 (fun w' g' => rdc 1 (by decide) w' g')]
  simp only [go_sem, Nat.reduceEqDiff]
  by_cases h01 : cs.getD 1 0 ≤ cs.getD 0 0
  · simp only [h01, decide_true, go_sem, Nat.reduceEqDiff]
    rw [ix22_2 (fun _ => hCp) (by omega), ldS3 (fun w' g' => rdc 2 (by decide) w' g'), ix22_3 (fun _ => hCp) (by omega), ldS3 (fun w' g' => rdc 3 (by decide) w' g')]
    simp only [go_sem, Nat.reduceEqDiff]
    by_cases h23 : cs.getD 3 0 ≤ cs.getD 2 0
    · simp only [h23, decide_true, go_sem, Nat.reduceEqDiff]
      exact no (fun h => h.2.2.1 ⟨by have := h.2.1.h01; omega, by have := h.2.1.h23; omega⟩) _ H.gr
    simp only [h23, decide_false, go_sem, Nat.reduceEqDiff]
    have hd : Cuts cs ws.length → ¬ (cs.getD 0 0 = cs.getD 1 0 ∧ cs.getD 2 0 = cs.getD 3 0) := fun hcu h => by omega
    refine in_c ?_
    cases hm : inB m 0 4
    · simp only [Bool.not_false, go_sem, Nat.reduceEqDiff]
      exact no (fun h => by rw [hm] at h; exact absurd h.2.2.2 Bool.false_ne_true) _ H.gr
    obtain ⟨m, rfl⟩ : ∃ m' : Nat, m = m' := by
      simp only [inB, Bool.and_eq_true, decide_eq_true_eq] at hm
      exact ⟨m.toNat, by omega⟩
    have hm4 : m ≤ 4 := by
      simp only [inB, Bool.and_eq_true, decide_eq_true_eq] at hm
      omega
    have hV : Cuts cs ws.length → isPumpV gm ws cs (m : Nat) = (if (List.range (m + 1)).all (fineP ws cs) = true then ((List.range (m + 1)).all (fun k => inL gm.rules (pumpL ws cs k)), true) else (false, false)) := fun hcuts => by
      rw [isPumpV, if_pos ⟨hgw, hcuts, hd hcuts, hm⟩, Int.toNat_natCast]
    simp only [Bool.not_true, go_sem, Nat.reduceEqDiff]
    rw [i64_of (by omega) (by omega)]
    refine loop_to (m + 1) 0 (fun r f w' => r ≤ m + 1 ∧ f 54 = .int .i64 r ∧ (∀ r', r' < r → fineP ws cs r' = true) ∧ f 10 = .bool ((List.range r).all (fun k => inL gm.rules (pumpL ws cs k))) ∧ Apt w w' [bx b1 [.int .i64 gm.nons, .int .i64 gm.toks, .slice Y gm.rules.length cy] 37]) ⟨Nat.zero_le _, rfl, fun r' h => absurd h (Nat.not_lt_zero _), rfl, H⟩ ?_
    rintro r f w5 N hag ⟨hr, h11, hfine, h10, H⟩ hN
    have f1 : f 1 = .slice X ws.length cx := hag 1 (by decide)
    have f2 : f 2 = .slice C cs.length cc := hag 2 (by decide)
    have f53 : f 53 = .int .i64 ((m : Int) + 1) := hag 53 (by decide)
    have f4 : f 4 = ptrv b1 := hag 4 (by decide)
    simp only [f1, f2, f53, f4, h11, h10, go_sem, Nat.reduceEqDiff]
    by_cases hlt : r ≤ m
    case neg =>
      simp only [show ¬ ((r : Int) < (m : Int) + 1) from by omega, decide_false, go_sem, Nat.reduceEqDiff]
      obtain rfl : r = m + 1 := by omega
      have hcuts : Cuts cs ws.length := fineP_cuts (hfine 0 (by omega))
      rw [hV hcuts, if_pos (range_all fun j hj => hfine j hj)] at hk
      exact hk _ H.gr
    simp only [show ((r : Int) < (m : Int) + 1) from by omega, decide_true, go_sem, Nat.reduceEqDiff]
    have bad : fineP ws cs r = false → ∀ w', Gr w w' → k (.tuple #[.bool false, .bool false]) w' := fun hf w' g => by
      by_cases hcuts : Cuts cs ws.length
      · have := hk w' g
        rwa [hV hcuts, if_neg (by rw [range_all_not (i := r) (by omega) hf]; exact Bool.false_ne_true)] at this
      · exact no (fun h => hcuts h.2.1) w' g
    have G5 := H.gr
    refine implPumpWord_c (hX.gr H.gr) hcx (hC.gr H.gr) fun X' c' w6 g6 => ?_
    have H := H.step g6
    cases hp : pumpW ws cs r with
    | none =>
      simp only [Bool.not_false, go_sem, Nat.reduceEqDiff]
      exact bad (by simp only [fineP, hp]) _ H.gr
    | some x =>
      dsimp only
      intro o
      simp only [Bool.not_true, go_sem, Nat.reduceEqDiff]
      have hxe := pumpW_eq hp
      rw [Int.toNat_natCast] at hxe
      by_cases hx10 : x.length ≤ 10
      case neg =>
        simp only [show ((10 : Int) < x.length) from by omega, decide_true, go_sem, Nat.reduceEqDiff]
        exact bad (by simp only [fineP, hp, hx10, decide_false]) _ H.gr
      simp only [show ¬ ((10 : Int) < x.length) from by omega, decide_false, go_sem, Nat.reduceEqDiff]
      have hf : fineP ws cs r = true := by simp only [fineP, hp, hx10, decide_true]
      have hfine' : ∀ r', r' < r + 1 → fineP ws cs r' = true := fun r' h => by
        by_cases e : r' = r
        · rw [e]; exact hf
        · exact hfine r' (by omega)
      cases hacc : (List.range r).all (fun k => inL gm.rules (pumpL ws cs k))
      · simp only [go_sem, Nat.reduceEqDiff]
        rw [i64_of (by omega) (by omega)]
        exact hN _ _ (by omega) ⟨by omega, rfl, hfine', by rw [range_all_succ, hacc]; rfl, H⟩
      · simp only [go_sem, Nat.reduceEqDiff]
        rw [ldB_agg agg37 sz37 rfl (H.box 0 rfl)]
        have hxt : ∀ t ∈ x, 0 ≤ t ∧ t ≤ 100 := fun t hmem => htok t (mem_pumpL (hxe ▸ hmem))
        refine spans_c (gm := gm) ⟨Y, cy, rfl, hc, hy.gr H.gr⟩ hg1 (Own.ints o) rfl hx10 hxt fun w7 bT HT => ?_
        have G6 := H.gr
        simp only [go_sem, Nat.reduceEqDiff]
        rw [ixa109 (by decide) (by decide), ixa108 (by decide) (by decide), ixa107 (by omega) (by omega)]
        simp only [Int.toNat_natCast, go_sem, Nat.reduceEqDiff]
        have hoff : 0 + (0 + 1) + Int.toNat 0 * 121 + Int.toNat 0 * 11 + x.length = 0 * 121 + 0 * 11 + x.length + 1 := by
          rw [show Int.toNat 0 = 0 from rfl]
          omega
        rw [hoff, ldB4 (HT.box 0 rfl) (cellsT_at (by decide) (by decide) (by omega))]
        have H := H.step HT.gr
        rw [i64_of (by omega) (by omega)]
        refine hN _ _ (by omega) ⟨by omega, rfl, hfine', ?_, H⟩
        rw [range_all_succ, hacc, ← hxe]
        rfl

  · simp only [h01, decide_false, go_sem, Nat.reduceEqDiff]
    have hd : Cuts cs ws.length → ¬ (cs.getD 0 0 = cs.getD 1 0 ∧ cs.getD 2 0 = cs.getD 3 0) := fun hcu h => by omega
    refine in_c ?_
    cases hm : inB m 0 4
    · simp only [Bool.not_false, go_sem, Nat.reduceEqDiff]
      exact no (fun h => by rw [hm] at h; exact absurd h.2.2.2 Bool.false_ne_true) _ H.gr
    obtain ⟨m, rfl⟩ : ∃ m' : Nat, m = m' := by
      simp only [inB, Bool.and_eq_true, decide_eq_true_eq] at hm
      exact ⟨m.toNat, by omega⟩
    have hm4 : m ≤ 4 := by
      simp only [inB, Bool.and_eq_true, decide_eq_true_eq] at hm
      omega
    have hV : Cuts cs ws.length → isPumpV gm ws cs (m : Nat) = (if (List.range (m + 1)).all (fineP ws cs) = true then ((List.range (m + 1)).all (fun k => inL gm.rules (pumpL ws cs k)), true) else (false, false)) := fun hcuts => by
      rw [isPumpV, if_pos ⟨hgw, hcuts, hd hcuts, hm⟩, Int.toNat_natCast]
    simp only [Bool.not_true, go_sem, Nat.reduceEqDiff]
    rw [i64_of (by omega) (by omega)]
    refine loop_to (m + 1) 0 (fun r f w' => r ≤ m + 1 ∧ f 54 = .int .i64 r ∧ (∀ r', r' < r → fineP ws cs r' = true) ∧ f 10 = .bool ((List.range r).all (fun k => inL gm.rules (pumpL ws cs k))) ∧ Apt w w' [bx b1 [.int .i64 gm.nons, .int .i64 gm.toks, .slice Y gm.rules.length cy] 37]) ⟨Nat.zero_le _, rfl, fun r' h => absurd h (Nat.not_lt_zero _), rfl, H⟩ ?_
    rintro r f w5 N hag ⟨hr, h11, hfine, h10, H⟩ hN
    have f1 : f 1 = .slice X ws.length cx := hag 1 (by decide)
    have f2 : f 2 = .slice C cs.length cc := hag 2 (by decide)
    have f53 : f 53 = .int .i64 ((m : Int) + 1) := hag 53 (by decide)
    have f4 : f 4 = ptrv b1 := hag 4 (by decide)
    simp only [f1, f2, f53, f4, h11, h10, go_sem, Nat.reduceEqDiff]
    by_cases hlt : r ≤ m
    case neg =>
      simp only [show ¬ ((r : Int) < (m : Int) + 1) from by omega, decide_false, go_sem, Nat.reduceEqDiff]
      obtain rfl : r = m + 1 := by omega
      have hcuts : Cuts cs ws.length := fineP_cuts (hfine 0 (by omega))
      rw [hV hcuts, if_pos (range_all fun j hj => hfine j hj)] at hk
      exact hk _ H.gr
    simp only [show ((r : Int) < (m : Int) + 1) from by omega, decide_true, go_sem, Nat.reduceEqDiff]
    have bad : fineP ws cs r = false → ∀ w', Gr w w' → k (.tuple #[.bool false, .bool false]) w' := fun hf w' g => by
      by_cases hcuts : Cuts cs ws.length
      · have := hk w' g
        rwa [hV hcuts, if_neg (by rw [range_all_not (i := r) (by omega) hf]; exact Bool.false_ne_true)] at this
      · exact no (fun h => hcuts h.2.1) w' g
    have G5 := H.gr
    refine implPumpWord_c (hX.gr H.gr) hcx (hC.gr H.gr) fun X' c' w6 g6 => ?_
    have H := H.step g6
    cases hp : pumpW ws cs r with
    | none =>
      simp only [Bool.not_false, go_sem, Nat.reduceEqDiff]
      exact bad (by simp only [fineP, hp]) _ H.gr
    | some x =>
      dsimp only
      intro o
      simp only [Bool.not_true, go_sem, Nat.reduceEqDiff]
      have hxe := pumpW_eq hp
      rw [Int.toNat_natCast] at hxe
      by_cases hx10 : x.length ≤ 10
      case neg =>
        simp only [show ((10 : Int) < x.length) from by omega, decide_true, go_sem, Nat.reduceEqDiff]
        exact bad (by simp only [fineP, hp, hx10, decide_false]) _ H.gr
      simp only [show ¬ ((10 : Int) < x.length) from by omega, decide_false, go_sem, Nat.reduceEqDiff]
      have hf : fineP ws cs r = true := by simp only [fineP, hp, hx10, decide_true]
      have hfine' : ∀ r', r' < r + 1 → fineP ws cs r' = true := fun r' h => by
        by_cases e : r' = r
        · rw [e]; exact hf
        · exact hfine r' (by omega)
      cases hacc : (List.range r).all (fun k => inL gm.rules (pumpL ws cs k))
      · simp only [go_sem, Nat.reduceEqDiff]
        rw [i64_of (by omega) (by omega)]
        exact hN _ _ (by omega) ⟨by omega, rfl, hfine', by rw [range_all_succ, hacc]; rfl, H⟩
      · simp only [go_sem, Nat.reduceEqDiff]
        rw [ldB_agg agg37 sz37 rfl (H.box 0 rfl)]
        have hxt : ∀ t ∈ x, 0 ≤ t ∧ t ≤ 100 := fun t hmem => htok t (mem_pumpL (hxe ▸ hmem))
        refine spans_c (gm := gm) ⟨Y, cy, rfl, hc, hy.gr H.gr⟩ hg1 (Own.ints o) rfl hx10 hxt fun w7 bT HT => ?_
        have G6 := H.gr
        simp only [go_sem, Nat.reduceEqDiff]
        rw [ixa109 (by decide) (by decide), ixa108 (by decide) (by decide), ixa107 (by omega) (by omega)]
        simp only [Int.toNat_natCast, go_sem, Nat.reduceEqDiff]
        have hoff : 0 + (0 + 1) + Int.toNat 0 * 121 + Int.toNat 0 * 11 + x.length = 0 * 121 + 0 * 11 + x.length + 1 := by
          rw [show Int.toNat 0 = 0 from rfl]
          omega
        rw [hoff, ldB4 (HT.box 0 rfl) (cellsT_at (by decide) (by decide) (by omega))]
        have H := H.step HT.gr
        rw [i64_of (by omega) (by omega)]
        refine hN _ _ (by omega) ⟨by omega, rfl, hfine', ?_, H⟩
        rw [range_all_succ, hacc, ← hxe]
        rfl

end Go.Proofs.Ytiohaeckagjebaa

/- Contracts: PumpOf and PathIn of the program. -/
set_option linter.unusedVariables false
set_option linter.unusedSimpArgs false
set_option maxRecDepth 100000
namespace Go.Sh
open Go
theorem Apt.emptySS {w0 w : World} {L : List Thing} (H : Apt w0 w L) (i : Nat) {e1 e2 c : Nat} {X : Option Addr} (ps : Nat → Option Addr × Nat) (hi : L[i]? = some (rwi e1 1 X 0 c [])) : Apt w0 w (L.set i (Sh.lssi e1 e2 X c [] ps)) := by
  have hr := H.row i hi
  have o : OwnSS e1 e2 w w0.heap.size X c [] ps := ⟨⟨[], hr, fun j hj => by simp at hj⟩, fun j hj => by simp at hj, fun i j hi => by simp at hi⟩
  refine H.set hi (Gx.refl _ w) (fun q hq => ?_) (fun q hq => (o.foot hq).2) (lssi_kept o)
  rcases hq with hq | ⟨l, hl, _⟩
  · exact .inl hq
  · simp at hl
end Go.Sh
namespace Go.Proofs.Ytiohaeckagjebaa
open Go Go.Sh Go.RowKit

theorem inf181 : Inf Try.prog 181 .nilFunc 1 8 := inf_of (by kernel_rfl)
theorem tree_c {gm : Gram} {tree : List Int} {X : Option Addr} {n c : Nat} (hg : goodG gm = true) (ht : tree.length ≤ 60) {F : Nat → Prop} {w : World} {v : Value} (hv : GramV F w v gm) (hx : Ints w X tree) (hn : n = tree.length) {k : Value → World → Prop}
    (hk0 : readT gm.rules tree tree.length 0 0 [] = none → ∀ w' v1 v2, Gr w w' → k (.tuple #[v1, v2, .bool false]) w')
    (hk1 : ∀ p ws, readT gm.rules tree tree.length 0 0 [] = some (p, ws) → ∀ w' b E W cw, Apt w w' [ows W cw ws, pti E p b] → k (.tuple #[ptrv b, .slice W ws.length cw, .bool true]) w') :
    CallK Try.prog 144 [v, .int .i64 0, .slice X n c] k w := by
  subst hn
  obtain ⟨Y, cy, rfl, hc, hy⟩ := hv
  refine enter144 ?_
  unfold S144
  have H := Apt.nil w
  refine boxH H fun bG w1 H => ?_
  refine boxH H fun bR w2 H => ?_
  refine buildH H u22 inf3 [] (by decide) (by decide) (by simp [Instr.fill, madeCells]) rfl fun b0 w3 H => ?_
  refine allocH H inf22 fun bW w4 H => ?_
  refine storeH H 3 rfl sz22 rfl rfl rfl fun w5 H => ?_
  refine allocH H inf181 fun bF w6 H => ?_
  simp only [go_sem, Nat.reduceEqDiff]
  refine storeH H 4 rfl sz181 rfl rfl rfl fun w7 H => ?_
  simp only [List.nil_append, List.cons_append, List.set_cons_zero, List.set_cons_succ] at H
  have H := H.pick (L' := held4 gm tree X Y c cy bR bG bW bF (some ⟨b0, 0, none⟩) 0 []) (fun i => [1, 0, 3, 4, 2].getD i 0) (fun i a ha => by
    match i, ha with
    | 0, ha => exact ha
    | 1, ha => exact ha
    | 2, ha => exact ha
    | 3, ha => exact ha
    | 4, ha => exact ha
    | i + 5, ha => simp [held4] at ha) (fun i j hi hj e => by
    simp only [held4, List.length_cons, List.length_nil] at hi hj
    match i, j, hi, hj, e with
    | 0, 0, _, _, _ | 1, 1, _, _, _ | 2, 2, _, _, _ | 3, 3, _, _, _ | 4, 4, _, _, _ => rfl
    | 0, 1, _, _, e | 0, 2, _, _, e | 0, 3, _, _, e | 0, 4, _, _, e | 1, 0, _, _, e | 1, 2, _, _, e | 1, 3, _, _, e | 1, 4, _, _, e | 2, 0, _, _, e | 2, 1, _, _, e | 2, 3, _, _, e | 2, 4, _, _, e | 3, 0, _, _, e | 3, 1, _, _, e | 3, 2, _, _, e | 3, 4, _, _, e | 4, 0, _, _, e | 4, 1, _, _, e | 4, 2, _, _, e | 4, 3, _, _, e => exact absurd e (by decide)
    | i + 5, _, h, _, _ => omega
    | _, j + 5, _, h, _ => omega)
  rw [ldB181 (H.box 3 rfl) rfl]
  refine callVc (caps := [ptrv bR, ptrv bG, ptrv bW, ptrv bF]) ?_
  refine read_c hg ht hx hy tree.length (M := []) (a := 0) H (by omega) (by simp; omega) (fun hz w8 v W cw ws H => ?_) fun p ws hz w8 b E W cw H => ?_
  · simp only [go_sem, Nat.reduceEqDiff]
    have H := H.drew
    rw [ldB22 (H.box 2 rfl) rfl]
    exact hk0 hz _ _ _ H.gr
  · simp only [go_sem, Nat.reduceEqDiff]
    have H := H.drew
    rw [ldB22 (H.box 2 rfl) rfl]
    exact hk1 p ws hz _ _ _ _ _ ((((H.erase 0).erase 0).erase 0).erase 0)
theorem whole_c {gm : Gram} {tree : List Int} {X : Option Addr} {n c : Nat} {F : Nat → Prop} {w : World} {v : Value} (hv : GramV F w v gm) (hx : Ints w X tree) (hn : n = tree.length) {k : Value → World → Prop}
    (hk0 : askedT gm tree = false → ∀ w' v1 v2, Gr w w' → k (.tuple #[v1, v2, .bool false]) w')
    (hk1 : ∀ p ws, Whole gm tree p ws → ∀ w' b E W cw, Apt w w' [ows W cw ws, pti E p b] → k (.tuple #[ptrv b, .slice W ws.length cw, .bool true]) w') :
    CallK Try.prog 93 [v, .slice X n c] k w := by
  subst hn
  obtain ⟨Y, cy, rfl, hc, hy⟩ := hv
  refine enter93 ?_
  unfold S93
  have H := Apt.nil w
  refine boxH H fun b1 w1 H => ?_
  rw [ldB_agg agg37 sz37 rfl (H.box 0 rfl)]
  refine isGrammar_c (gm := gm) ⟨Y, cy, rfl, hc, hy.gr H.gr⟩ fun w2 g2 => ?_
  have H := H.step g2
  cases hg : goodG gm
  · simp only [Bool.not_false, go_sem, Nat.reduceEqDiff]
    exact hk0 (by simp [askedT, hg]) _ _ _ H.gr
  simp only [Bool.not_true, go_sem, Nat.reduceEqDiff]
  by_cases hl : tree.length ≤ 60
  case neg =>
    simp only [show (60 : Int) < tree.length from by omega, decide_true, go_sem, Nat.reduceEqDiff]
    exact hk0 (by simp [askedT, hl]) _ _ _ H.gr
  simp only [show ¬ (60 : Int) < tree.length from by omega, decide_false, go_sem, Nat.reduceEqDiff]
  rw [ldB_agg agg37 sz37 rfl (H.box 0 rfl)]
  have G := H.gr
  refine tree_c hg hl ⟨Y, cy, rfl, hc, hy.gr H.gr⟩ (hx.gr H.gr) rfl (fun hz w3 v1 v2 g3 => ?_) fun p ws hz w3 b E W cw H3 => ?_
  · simp only [go_sem, Nat.reduceEqDiff]
    refine hk0 ?_ _ _ _ (gr_trans (gr_trans G g3) (gr_drew _))
    cases ha : askedT gm tree with
    | false => rfl
    | true =>
      obtain ⟨p, ws, hW⟩ := asked_whole.1 ha
      rw [hW.read] at hz
      cases hz
  · simp only [go_sem, Nat.reduceEqDiff]
    have H3 := H3.drew
    obtain ⟨Xp, cp, hb, _⟩ := (show PartAt E w3.drew p b from H3.get 1 rfl).box
    rw [ldB3 hb rfl]
    simp only [go_sem, Int.natCast_inj]
    have H4 := Apt.append (Apt.nil w |>.step G) H3
    by_cases hf : p.fin = tree.length
    · simp only [hf, decide_true]
      exact hk1 p ws ⟨hg, hl, hz, hf⟩ _ _ _ _ _ H4
    · simp only [hf, decide_false]
      refine hk0 ?_ _ _ _ H4.gr
      cases ha : askedT gm tree with
      | false => rfl
      | true =>
        obtain ⟨p', ws', hW⟩ := asked_whole.1 ha
        have := hW.read
        rw [hz] at this
        simp only [Option.some.injEq, Prod.mk.injEq] at this
        exact absurd (this.1 ▸ hW.fin) hf
theorem pti_lt {w w' : World} {L : List Thing} {i b : Nat} {E : Nat → Prop} {p : PT} (H : Apt w w' L) (hi : L[i]? = some (pti E p b)) : ∀ q, E q → q < w'.heap.size := fun q hq => (H.ok i _ hi).hi q hq
theorem implPumpOf_c {F : Nat → Prop} {w : World} {v : Value} {gm : Gram} {tree : List Int} {X : Option Addr} {n c : Nat} (hv : GramV F w v gm) (hx : Ints w X tree) (hn : n = tree.length) {k : Value → World → Prop}
    (hk : ∀ w' U d, Gr w w' → Own 3 w' w.heap.size U d (pumpOfV gm tree).1 → k (.tuple #[.slice U (pumpOfV gm tree).1.length d, .bool (pumpOfV gm tree).2]) w') :
    CallK Try.prog 43 [v, .slice X n c] k w := by
  subst hn
  obtain ⟨Y, cy, rfl, hc, hy⟩ := hv
  refine enter43 ?_
  unfold S43
  have H := Apt.nil w
  refine boxH H fun b1 w1 H => ?_
  rw [ldB_agg agg37 sz37 rfl (H.box 0 rfl)]
  unfold pumpOfV at hk
  have G1 := H.gr
  refine whole_c (gm := gm) (tree := tree) ⟨Y, cy, rfl, hc, hy.gr H.gr⟩ (hx.gr H.gr) rfl (fun ha w2 v1 v2 g2 => ?_) fun p ws hW w2 b E W cw H2 => ?_
  · simp only [go_sem, Bool.not_false]
    rw [whole_no ha] at hk
    exact hk _ none 0 (gr_trans G1 g2) (Row.nil _ _ _ _)
  rw [hW.eq] at hk
  simp only [go_sem, Bool.not_true]
  have H := H.append H2
  refine pump_c hW (pti_lt H (i := 2) rfl) (H.get 2 rfl) (fun he w3 g3 => ?_) fun i j he w3 bi bj g3 pi pj => ?_
  · have H := H.step g3
    simp only [he] at hk
    simp only [go_sem, Nat.reduceEqDiff]
    rw [bin_eql_ptr Try.underlying86]
    simp only [Option.isNone_none, go_sem, Nat.reduceEqDiff]
    exact hk _ none 0 H.gr (Row.nil _ _ _ _)
  · have H := (H.step g3).drew
    simp only [he] at hk
    simp only [go_sem, Nat.reduceEqDiff]
    rw [bin_eql_ptr Try.underlying86]
    simp only [Option.isNone_some, go_sem, Nat.reduceEqDiff]
    obtain ⟨hi, hij, hjf, hj, _⟩ := cuts_of hW he
    have lai := (hW.laid i hi).1
    have laj := (hW.laid j hj).1
    rw [← ptn_eq hi] at lai
    rw [← ptn_eq hj] at laj
    obtain ⟨Xi, ci, bxi, _⟩ := (PartAt.gr (gr_drew w3) _ _ pi).box
    obtain ⟨Xj, cj, bxj, _⟩ := (PartAt.gr (gr_drew w3) _ _ pj).box
    rw [ldB3 bxi rfl, ldB3 bxj rfl, ldB3 bxi rfl, ldB3 bxj rfl, ldB3 bxj rfl, ldB3 bxi rfl]
    rw [lai, laj, Nat.zero_add, Nat.zero_add]
    refine buildH H u22 inf3 (ints (pumpR p.parts i j)) (by decide) (by decide) (by simp [Instr.fill, madeCells, Value.cells, rng6, ints, pumpR]) rfl fun b5 w5 H => ?_
    exact hk _ _ 6 H.gr (H.row 3 rfl)
theorem implPathIn_c {F : Nat → Prop} {w : World} {v : Value} {gm : Gram} {tree : List Int} {X : Option Addr} {n c : Nat} (hv : GramV F w v gm) (hx : Ints w X tree) (hn : n = tree.length) {k : Value → World → Prop}
    (hk : ∀ w' U d ps, Gr w w' → OwnSS 22 3 w' w.heap.size U d (pathInV gm tree).1 ps → k (.tuple #[.slice U (pathInV gm tree).1.length d, .bool (pathInV gm tree).2]) w') :
    CallK Try.prog 45 [v, .slice X n c] k w := by
  subst hn
  obtain ⟨Y, cy, rfl, hc, hy⟩ := hv
  refine enter45 ?_
  unfold S45
  have H := Apt.nil w
  refine boxH H fun b1 w1 H => ?_
  rw [ldB_agg agg37 sz37 rfl (H.box 0 rfl)]
  unfold pathInV at hk
  have G1 := H.gr
  refine whole_c (gm := gm) (tree := tree) ⟨Y, cy, rfl, hc, hy.gr H.gr⟩ (hx.gr H.gr) rfl (fun ha w2 v1 v2 g2 => ?_) fun p ws hW w2 b E W cw H2 => ?_
  · simp only [go_sem, Bool.not_false]
    rw [whole_no ha] at hk
    exact hk _ none 0 (fun _ => (none, 0)) (gr_trans G1 g2) (OwnSS.nil _ _ _ _ _)
  rw [hW.eq] at hk
  dsimp only at hk
  simp only [go_sem, Bool.not_true]
  have H := H.append H2
  have hlen := hW.len
  have h60 := hW.le
  refine buildH H u48 inf22 [] (by decide) (by decide) (by simp [Instr.fill, madeCells]) rfl fun b2 w3 H => ?_
  have H := H.emptySS 3 (e2 := 3) (fun _ => (none, 0)) rfl
  refine parts_c p.parts.length (Nat.le_refl _) (by omega) (pti_lt H (i := 2) rfl) (H.get 2 rfl) fun w4 U d bs g4 r4 a4 => ?_
  have H := H.addRow g4 r4
  simp only [List.nil_append, List.cons_append, List.set_cons_zero, List.set_cons_succ] at H
  have hbl := a4.1
  simp only [go_sem, Nat.reduceEqDiff]
  have H := H.weaken 2 (b := ptsi E p.parts bs) rfl (fun q h => h) (fun w' hs _ => a4.same hs) (fun w' w'' hh hp => hp.same hh)
  simp only [List.set_cons_zero, List.set_cons_succ] at H
  have G4 := H.gr
  generalize hP : p.parts = P at *
  refine loop_to P.length 0 (fun i f w' => i ≤ P.length ∧ f 25 = .int .i64 i ∧ ∃ (V : Option Addr) (e : Nat) (ps : Nat → Option Addr × Nat), f 9 = .slice V (rowsP (P.take i)).length e ∧ Apt w w' [bx b1 [.int .i64 gm.nons, .int .i64 gm.toks, .slice Y gm.rules.length cy] 37, ows W cw ws, ptsi E P bs, lss V e (rowsP (P.take i)) ps, rwi 86 1 U bs.length d (bs.map ptrv)])
    ⟨Nat.zero_le _, rfl, _, _, _, rfl, H⟩ ?_
  rintro i f w5 N hag ⟨hi, h25, V, e, ps, h9, H⟩ hN
  have hA : AllPt E w5 P bs := H.get 2 rfl
  have f23 : f 23 = .slice U bs.length d := hag 23 (by decide)
  have f24 : f 24 = .int .i64 bs.length := hag 24 (by decide)
  simp only [f23, f24, h25, h9, go_sem, Nat.reduceEqDiff]
  by_cases hlt : i < P.length
  case neg =>
    simp only [show ¬ (i : Int) < bs.length from by omega, decide_false, go_sem, Nat.reduceEqDiff]
    obtain rfl : i = P.length := by omega
    rw [List.take_length] at H
    rw [List.take_length]
    exact hk _ V e ps H.gr (H.lssi 3 rfl)
  simp only [show (i : Int) < bs.length from by omega, decide_true, go_sem, Nat.reduceEqDiff]
  have hpt := hA.2 i hlt
  rw [ixn91 (Row.ptr (H.row 4 rfl)) (by omega), ld86 ((H.row 4 rfl).src.cell i _ (ptrs_at (by omega)))]
  have H := H.drew
  obtain ⟨Xp, cp, hb, _⟩ := (PartAt.gr (gr_drew w5) _ _ hpt).box
  simp only [go_sem, Nat.reduceEqDiff]
  rw [ldB3 hb rfl, ldB3 hb rfl, ldB3 hb rfl, ldB3 hb rfl]
  refine do_build_of u22 inf3 (cells := ints (ptn P i).row) (by decide) (by decide) (by simp [Instr.fill, madeCells, Value.cells, rng4, ints, PT.row]) rfl fun b6 w6 hb6 hb6' g6 hB6 hr6 => ?_
  have H := H.addRow g6 (hr6 _ (Nat.le_refl _))
  refine pushSSH H 3 5 (by decide) (m := 4) (ys := (ptn P i).row) rfl rfl rfl rfl (by rw [rowsP_length, List.length_take]; omega) fun _ V' e' w7 ps' H => ?_
  have H := H.erase 5
  rw [i64_of (by omega) (by omega)]
  have hrow : rowsP (P.take (i + 1)) = rowsP (P.take i) ++ [(ptn P i).row] := by
    rw [List.take_succ_eq_append_getElem hlt, rowsP_append, ptn_eq hlt]
    rfl
  refine hN _ _ hlt ⟨hlt, rfl, V', e', ps', by rw [hrow]; rfl, ?_⟩
  rw [hrow]
  exact H
end Go.Proofs.Ytiohaeckagjebaa

/- Bg: bodies of functions as terms of the frame calculus, printed by shgen.py of this repository. -/
set_option linter.unusedVariables false
set_option maxRecDepth 100000
namespace Go.Proofs.Ytiohaeckagjebaa
open Go Go.Sh

/-! loop.example/g00758/laws.FnExactCountByLong -/
def pl12 : Plans := fun i => match i with
  | 10 => ⟨true, [3], .step 0 .held (.step 1 .held (.step 2 .one (.step 3 .last (.step 4 .any (.nil)))))⟩
  | _ => ⟨false, [], .nil⟩
def S12 (v0 v1 : Value) (k : Value → World → Prop) (w : World) : Prop :=
 Do Try.prog (sBox 31 v0) (fun t1 w2 =>
 Rd Try.prog (WS.at w2) (sLoad 31 t1) fun t3 =>
 CallK Try.prog 29 [t3, (.int .i64 1048576)] (fun t4 w5 =>
 Rd Try.prog (WS.at w5) (sBin .lss 3 true t4 (.int .i64 0)) fun t6 =>
 CondK t6
  (k (.bool true) w5)
  (Rd Try.prog (WS.at w5) (sLoad 31 t1) fun t7 =>
  CallK Try.prog 31 [t7] (fun t8 w9 =>
  CallK Try.prog 53 [t8, v1] (fun t10 w11 =>
  Rd Try.prog (WS.at w11) (sExtract t10 0) fun t12 =>
  Rd Try.prog (WS.at w11) (sExtract t10 1) fun t13 =>
  Rd Try.prog (WS.at w11) (sLoad 31 t1) fun t14 =>
  CallK Try.prog 31 [t14] (fun t15 w16 =>
  Do Try.prog (sAlloc 37) (fun t17 w18 =>
  Do Try.prog (sStore 37 t17 t15) (fun _ w19 =>
  Rd Try.prog (WS.at w19) (sLoad 37 t17) fun t20 =>
  CallK Try.prog 54 [t20, v1] (fun t21 w22 =>
  Rd Try.prog (WS.at w22) (sExtract t21 0) fun t23 =>
  Rd Try.prog (WS.at w22) (sExtract t21 1) fun t24 =>
  CallK Try.prog 26 [t23, t12] (fun t25 w26 =>
  Rd Try.prog (WS.at w26) (sUn .not t25) fun t27 =>
  GuardK t27 false (fun k w' => k t24 w') (fun t28 w29 =>
  GuardK t27 false (fun k w' => k t13 w') (fun t30 w31 =>
  GuardK t27 false (fun k w' => Rd Try.prog (WS.at w31) (sBin .neq 4 false t28 t30) fun v => k v w') (fun t32 w33 =>
  Rd Try.prog (WS.at w33) (sPick t27 (.bool true) t32) fun t34 =>
  CondK t34
   (k (.bool false) w33)
   (∃ S35 : World → Prop, ∃ h36 : S35 w33.drew,
   Rd Try.prog ⟨S35, w33.drew, h36⟩ (sLoad 37 t17) fun t37 =>
   Rd Try.prog ⟨S35, w33.drew, h36⟩ (sLoad 31 t1) fun t38 =>
   CallK Try.prog 31 [t38] (fun t39 w40 =>
   S35 w40 ∧ CallK Try.prog 33 [t37, t39] (fun t41 w42 =>
   Rd Try.prog WS.any (sUn .not t41) fun t43 =>
   CondK t43
    (k (.bool false) w42)
    (Rd Try.prog (WS.at w42) (sLoad 37 t17) fun t44 =>
    CallK Try.prog 36 [t44, (.int .i64 1)] (fun t45 w46 =>
    Rd Try.prog (WS.at w46) (sBin .lss 3 true t45 (.int .i64 0)) fun t47 =>
    GuardK t47 false (fun k w' => k t23 w') (fun t48 w49 =>
    GuardK t47 false (fun k w' => k t12 w') (fun t50 w51 =>
    GuardK t47 false (fun k w' => CallK Try.prog 26 [t48, t50] k w') (fun t52 w53 =>
    GuardK t47 false (fun k w' => Rd Try.prog (WS.at w53) (sUn .not t52) fun v => k v w') (fun t54 w55 =>
    Rd Try.prog (WS.at w55) (sPick t47 (.bool true) t54) fun t56 =>
    GuardK t56 false (fun k w' => k t24 w') (fun t57 w58 =>
    GuardK t56 false (fun k w' => k t13 w') (fun t59 w60 =>
    GuardK t56 false (fun k w' => Rd Try.prog (WS.at w60) (sBin .neq 4 false t57 t59) fun v => k v w') (fun t61 w62 =>
    Rd Try.prog (WS.at w62) (sPick t56 (.bool true) t61) fun t63 =>
    CondK t63
     (k (.bool false) w62)
     (CallK Try.prog 27 [t23, (.int .i64 1)] (fun t64 w65 =>
     CallK Try.prog 28 [t23, (.int .i64 1)] (fun t66 w67 =>
     Rd Try.prog (WS.at w67) (sBin .lss 3 true t66 (.int .i64 0)) fun t68 =>
     CondK t68
      (k (.bool false) w67)
      (Rd Try.prog (WS.at w67) (sBin .neq 3 false t66 t64) fun t69 =>
      CondK t69
       (k (.bool false) w67)
       (Rd Try.prog (WS.at w67) (sLoad 31 t1) fun t70 =>
       CallK Try.prog 31 [t70] (fun t71 w72 =>
       CallK Try.prog 54 [t71, v1] (fun t73 w74 =>
       Rd Try.prog (WS.at w74) (sExtract t73 0) fun t75 =>
       Rd Try.prog (WS.at w74) (sExtract t73 1) fun t76 =>
       CallK Try.prog 26 [t75, t12] (fun t77 w78 =>
       Rd Try.prog (WS.at w78) (sUn .not t77) fun t79 =>
       GuardK t79 false (fun k w' => k t76 w') (fun t80 w81 =>
       GuardK t79 false (fun k w' => k t13 w') (fun t82 w83 =>
       GuardK t79 false (fun k w' => Rd Try.prog (WS.at w83) (sBin .neq 4 false t80 t82) fun v => k v w') (fun t84 w85 =>
       Rd Try.prog (WS.at w85) (sPick t79 (.bool true) t84) fun t86 =>
       CondK t86
        (k (.bool false) w85)
        (CallK Try.prog 28 [t23, (.int .i64 1)] (fun t87 w88 =>
        Rd Try.prog (WS.at w88) (sBin .lss 3 true t87 (.int .i64 0)) fun t89 =>
        CondK t89
         (k (.bool false) w88)
         (Rd Try.prog (WS.at w88) (sBin .neq 3 false t87 t64) fun t90 =>
         CondK t90
          (k (.bool false) w88)
          (k (.bool true) w88))) w85)) w83) w81) w78) w74) w72) w67))) w65) w62)) w60) w58) w55) w53) w51) w49) w46) w42)) w40) w33.drew)) w31) w29) w26) w22) w19) w18) w16) w11) w9) w5)) w2) w
theorem body12 : Try.f12.body = some (bodyOf Try.f12) := by kernel_rfl
theorem same12 (v0 v1 : Value) (k : Value → World → Prop) (w : World) : wpF Try.prog pl12 (bodyOf Try.f12) (bodyQ Try.prog Try.f12.results.toList k) (initF [v0, v1]) w = S12 v0 v1 k w := by kernel_rfl
theorem enter12 {v0 v1 : Value} {k : Value → World → Prop} {w : World} (h : S12 v0 v1 k w) : CallK Try.prog 12 [v0, v1] k w :=
  call_of_wpF (pl := pl12) mixed Try.func12 body12 (by kernel_rfl) (of_decide_eq_true (by kernel_rfl)) (by kernel_rfl) (by kernel_rfl) (same12 v0 v1 k w ▸ h)

/-! loop.example/g00758/laws.FnExactSameUpTo -/
def pl13 : Plans := fun i => match i with
  | 8 => ⟨true, [3, 5], .step 0 .held (.step 2 .held (.step 4 .any (.step 1 .one (.step 3 .last (.step 5 .last (.step 6 .any (.step 7 .any (.step 8 .any (.step 9 .any (.step 10 .any (.nil)))))))))))⟩
  | 14 => ⟨true, [3], .step 0 .held (.step 1 .held (.step 2 .one (.step 3 .last (.step 4 .any (.nil)))))⟩
  | 16 => ⟨true, [3], .step 0 .held (.step 1 .held (.step 2 .one (.step 3 .last (.step 4 .any (.nil)))))⟩
  | _ => ⟨false, [], .nil⟩
def S13 (v0 v1 v2 : Value) (k : Value → World → Prop) (w : World) : Prop :=
 Do Try.prog (sBox 31 v0) (fun t1 w2 =>
 Do Try.prog (sBox 31 v1) (fun t3 w4 =>
 Rd Try.prog (WS.at w4) (sLoad 31 t1) fun t5 =>
 CallK Try.prog 29 [t5, (.int .i64 1048576)] (fun t6 w7 =>
 Rd Try.prog (WS.at w7) (sBin .lss 3 true t6 (.int .i64 0)) fun t8 =>
 CondK t8
  (k (.bool true) w7)
  (Rd Try.prog (WS.at w7) (sLoad 31 t3) fun t9 =>
  CallK Try.prog 29 [t9, t6] (fun t10 w11 =>
  Rd Try.prog (WS.at w11) (sBin .lss 3 true t10 (.int .i64 0)) fun t12 =>
  CondK t12
   (k (.bool true) w11)
   (∃ S13 : World → Prop, ∃ h14 : S13 w11.drew,
   Rd Try.prog ⟨S13, w11.drew, h14⟩ (sLoad 31 t1) fun t15 =>
   Rd Try.prog ⟨S13, w11.drew, h14⟩ (sLoad 31 t3) fun t16 =>
   CallK Try.prog 31 [t15] (fun t17 w18 =>
   S13 w18 ∧ CallK Try.prog 31 [t16] (fun t19 w20 =>
   CallK Try.prog 55 [t17, t19, v2] (fun t21 w22 =>
   Rd Try.prog WS.any (sExtract t21 0) fun t23 =>
   Rd Try.prog WS.any (sExtract t21 1) fun t24 =>
   Rd Try.prog (WS.at w22) (sLoad 31 t1) fun t25 =>
   CallK Try.prog 31 [t25] (fun t26 w27 =>
   Do Try.prog (sAlloc 37) (fun t28 w29 =>
   Do Try.prog (sStore 37 t28 t26) (fun _ w30 =>
   Rd Try.prog (WS.at w30) (sLoad 31 t3) fun t31 =>
   CallK Try.prog 31 [t31] (fun t32 w33 =>
   Do Try.prog (sAlloc 37) (fun t34 w35 =>
   Do Try.prog (sStore 37 t34 t32) (fun _ w36 =>
   Rd Try.prog (WS.at w36) (sLoad 37 t28) fun t37 =>
   Rd Try.prog (WS.at w36) (sLoad 37 t34) fun t38 =>
   CallK Try.prog 56 [t37, t38, v2] (fun t39 w40 =>
   Rd Try.prog (WS.at w40) (sExtract t39 0) fun t41 =>
   Rd Try.prog (WS.at w40) (sExtract t39 1) fun t42 =>
   Rd Try.prog (WS.at w40) (sBin .neq 4 false t41 t23) fun t43 =>
   GuardK t43 false (fun k w' => k t42 w') (fun t44 w45 =>
   GuardK t43 false (fun k w' => k t24 w') (fun t46 w47 =>
   GuardK t43 false (fun k w' => Rd Try.prog (WS.at w47) (sBin .neq 4 false t44 t46) fun v => k v w') (fun t48 w49 =>
   Rd Try.prog (WS.at w49) (sPick t43 (.bool true) t48) fun t50 =>
   CondK t50
    (k (.bool false) w49)
    (∃ S51 : World → Prop, ∃ h52 : S51 w49.drew,
    Rd Try.prog ⟨S51, w49.drew, h52⟩ (sLoad 37 t28) fun t53 =>
    Rd Try.prog ⟨S51, w49.drew, h52⟩ (sLoad 31 t1) fun t54 =>
    CallK Try.prog 31 [t54] (fun t55 w56 =>
    S51 w56 ∧ CallK Try.prog 33 [t53, t55] (fun t57 w58 =>
    Rd Try.prog WS.any (sUn .not t57) fun t59 =>
    CondK t59
     (k (.bool false) w58)
     (∃ S60 : World → Prop, ∃ h61 : S60 w58.drew,
     Rd Try.prog ⟨S60, w58.drew, h61⟩ (sLoad 37 t34) fun t62 =>
     Rd Try.prog ⟨S60, w58.drew, h61⟩ (sLoad 31 t3) fun t63 =>
     CallK Try.prog 31 [t63] (fun t64 w65 =>
     S60 w65 ∧ CallK Try.prog 33 [t62, t64] (fun t66 w67 =>
     Rd Try.prog WS.any (sUn .not t66) fun t68 =>
     CondK t68
      (k (.bool false) w67)
      (k (.bool true) w67)) w65) w58.drew)) w56) w49.drew)) w47) w45) w40) w36) w35) w33) w30) w29) w27) w22) w20) w18) w11.drew)) w7)) w4) w2) w
theorem body13 : Try.f13.body = some (bodyOf Try.f13) := by kernel_rfl
theorem same13 (v0 v1 v2 : Value) (k : Value → World → Prop) (w : World) : wpF Try.prog pl13 (bodyOf Try.f13) (bodyQ Try.prog Try.f13.results.toList k) (initF [v0, v1, v2]) w = S13 v0 v1 v2 k w := by kernel_rfl
theorem enter13 {v0 v1 v2 : Value} {k : Value → World → Prop} {w : World} (h : S13 v0 v1 v2 k w) : CallK Try.prog 13 [v0, v1, v2] k w :=
  call_of_wpF (pl := pl13) mixed Try.func13 body13 (by kernel_rfl) (of_decide_eq_true (by kernel_rfl)) (by kernel_rfl) (by kernel_rfl) (same13 v0 v1 v2 k w ▸ h)

/-! loop.example/g00758/laws.FnExactNearWord -/
def pl19 : Plans := fun i => match i with
  | 13 => ⟨true, [3], .step 0 .held (.step 1 .held (.step 2 .one (.step 3 .last (.step 4 .any (.nil)))))⟩
  | _ => ⟨false, [], .nil⟩
def S19 (v0 v1 v2 : Value) (k : Value → World → Prop) (w : World) : Prop :=
 Do Try.prog (sBox 31 v0) (fun t1 w2 =>
 Rd Try.prog (WS.at w2) (sBuiltin .len #[22] 3 [false] [v1]) fun t3 =>
 Rd Try.prog (WS.at w2) (sBin .gtr 3 true t3 (.int .i64 1048576)) fun t4 =>
 CondK t4
  (k (.bool true) w2)
  (Rd Try.prog (WS.at w2) (sLoad 31 t1) fun t5 =>
  CallK Try.prog 29 [t5, (.int .i64 1048576)] (fun t6 w7 =>
  Rd Try.prog (WS.at w7) (sBin .lss 3 true t6 (.int .i64 0)) fun t8 =>
  CondK t8
   (k (.bool true) w7)
   (Rd Try.prog (WS.at w7) (sLoad 31 t1) fun t9 =>
   CallK Try.prog 31 [t9] (fun t10 w11 =>
   CallK Try.prog 24 [v1] (fun t12 w13 =>
   CallK Try.prog 67 [t10, t12, v2] (fun t14 w15 =>
   Rd Try.prog (WS.at w15) (sExtract t14 0) fun t16 =>
   Rd Try.prog (WS.at w15) (sExtract t14 1) fun t17 =>
   Rd Try.prog (WS.at w15) (sLoad 31 t1) fun t18 =>
   CallK Try.prog 31 [t18] (fun t19 w20 =>
   Do Try.prog (sAlloc 37) (fun t21 w22 =>
   Do Try.prog (sStore 37 t21 t19) (fun _ w23 =>
   CallK Try.prog 24 [v1] (fun t24 w25 =>
   Rd Try.prog (WS.at w25) (sLoad 37 t21) fun t26 =>
   CallK Try.prog 68 [t26, t24, v2] (fun t27 w28 =>
   Rd Try.prog (WS.at w28) (sExtract t27 0) fun t29 =>
   Rd Try.prog (WS.at w28) (sExtract t27 1) fun t30 =>
   CallK Try.prog 26 [t29, t16] (fun t31 w32 =>
   Rd Try.prog (WS.at w32) (sUn .not t31) fun t33 =>
   GuardK t33 false (fun k w' => k t30 w') (fun t34 w35 =>
   GuardK t33 false (fun k w' => k t17 w') (fun t36 w37 =>
   GuardK t33 false (fun k w' => Rd Try.prog (WS.at w37) (sBin .neq 4 false t34 t36) fun v => k v w') (fun t38 w39 =>
   Rd Try.prog (WS.at w39) (sPick t33 (.bool true) t38) fun t40 =>
   CondK t40
    (k (.bool false) w39)
    (∃ S41 : World → Prop, ∃ h42 : S41 w39.drew,
    Rd Try.prog ⟨S41, w39.drew, h42⟩ (sLoad 37 t21) fun t43 =>
    Rd Try.prog ⟨S41, w39.drew, h42⟩ (sLoad 31 t1) fun t44 =>
    CallK Try.prog 31 [t44] (fun t45 w46 =>
    S41 w46 ∧ CallK Try.prog 33 [t43, t45] (fun t47 w48 =>
    Rd Try.prog WS.any (sUn .not t47) fun t49 =>
    CondK t49
     (k (.bool false) w48)
     (CallK Try.prog 24 [v1] (fun t50 w51 =>
     CallK Try.prog 26 [t24, t50] (fun t52 w53 =>
     Rd Try.prog (WS.at w53) (sUn .not t52) fun t54 =>
     CondK t54
      (k (.bool false) w53)
      (Rd Try.prog (WS.at w53) (sLoad 37 t21) fun t55 =>
      CallK Try.prog 36 [t55, (.int .i64 1)] (fun t56 w57 =>
      CallK Try.prog 27 [t24, t56] (fun t58 w59 =>
      Rd Try.prog (WS.at w59) (sBin .lss 3 true t58 (.int .i64 0)) fun t60 =>
      GuardK t60 false (fun k w' => k t29 w') (fun t61 w62 =>
      GuardK t60 false (fun k w' => k t16 w') (fun t63 w64 =>
      GuardK t60 false (fun k w' => CallK Try.prog 26 [t61, t63] k w') (fun t65 w66 =>
      GuardK t60 false (fun k w' => Rd Try.prog (WS.at w66) (sUn .not t65) fun v => k v w') (fun t67 w68 =>
      Rd Try.prog (WS.at w68) (sPick t60 (.bool true) t67) fun t69 =>
      GuardK t69 false (fun k w' => k t30 w') (fun t70 w71 =>
      GuardK t69 false (fun k w' => k t17 w') (fun t72 w73 =>
      GuardK t69 false (fun k w' => Rd Try.prog (WS.at w73) (sBin .neq 4 false t70 t72) fun v => k v w') (fun t74 w75 =>
      Rd Try.prog (WS.at w75) (sPick t69 (.bool true) t74) fun t76 =>
      CondK t76
       (k (.bool false) w75)
       (CallK Try.prog 27 [t29, (.int .i64 1)] (fun t77 w78 =>
       CallK Try.prog 28 [t29, (.int .i64 1)] (fun t79 w80 =>
       Rd Try.prog (WS.at w80) (sBin .lss 3 true t79 (.int .i64 0)) fun t81 =>
       CondK t81
        (k (.bool false) w80)
        (Rd Try.prog (WS.at w80) (sBin .neq 3 false t79 t77) fun t82 =>
        CondK t82
         (k (.bool false) w80)
         (Rd Try.prog (WS.at w80) (sLoad 31 t1) fun t83 =>
         CallK Try.prog 31 [t83] (fun t84 w85 =>
         CallK Try.prog 24 [v1] (fun t86 w87 =>
         CallK Try.prog 68 [t84, t86, v2] (fun t88 w89 =>
         Rd Try.prog (WS.at w89) (sExtract t88 0) fun t90 =>
         Rd Try.prog (WS.at w89) (sExtract t88 1) fun t91 =>
         CallK Try.prog 26 [t90, t16] (fun t92 w93 =>
         Rd Try.prog (WS.at w93) (sUn .not t92) fun t94 =>
         GuardK t94 false (fun k w' => k t91 w') (fun t95 w96 =>
         GuardK t94 false (fun k w' => k t17 w') (fun t97 w98 =>
         GuardK t94 false (fun k w' => Rd Try.prog (WS.at w98) (sBin .neq 4 false t95 t97) fun v => k v w') (fun t99 w100 =>
         Rd Try.prog (WS.at w100) (sPick t94 (.bool true) t99) fun t101 =>
         CondK t101
          (k (.bool false) w100)
          (CallK Try.prog 28 [t29, (.int .i64 1)] (fun t102 w103 =>
          Rd Try.prog (WS.at w103) (sBin .lss 3 true t102 (.int .i64 0)) fun t104 =>
          CondK t104
           (k (.bool false) w103)
           (Rd Try.prog (WS.at w103) (sBin .neq 3 false t102 t77) fun t105 =>
           CondK t105
            (k (.bool false) w103)
            (k (.bool true) w103))) w100)) w98) w96) w93) w89) w87) w85) w80))) w78) w75)) w73) w71) w68) w66) w64) w62) w59) w57) w53)) w51) w48)) w46) w39.drew)) w37) w35) w32) w28) w25) w23) w22) w20) w15) w13) w11) w7)) w2)) w
theorem body19 : Try.f19.body = some (bodyOf Try.f19) := by kernel_rfl
theorem same19 (v0 v1 v2 : Value) (k : Value → World → Prop) (w : World) : wpF Try.prog pl19 (bodyOf Try.f19) (bodyQ Try.prog Try.f19.results.toList k) (initF [v0, v1, v2]) w = S19 v0 v1 v2 k w := by kernel_rfl
theorem enter19 {v0 v1 v2 : Value} {k : Value → World → Prop} {w : World} (h : S19 v0 v1 v2 k w) : CallK Try.prog 19 [v0, v1, v2] k w :=
  call_of_wpF (pl := pl19) mixed Try.func19 body19 (by kernel_rfl) (of_decide_eq_true (by kernel_rfl)) (by kernel_rfl) (by kernel_rfl) (same19 v0 v1 v2 k w ▸ h)

/-! loop.example/g00758/laws.FnExactFirstUnlike -/
def pl20 : Plans := fun i => match i with
  | 8 => ⟨true, [3, 5], .step 0 .held (.step 2 .held (.step 4 .any (.step 1 .one (.step 3 .last (.step 5 .last (.step 6 .any (.step 7 .any (.step 8 .any (.step 9 .any (.step 10 .any (.nil)))))))))))⟩
  | 14 => ⟨true, [3], .step 0 .held (.step 1 .held (.step 2 .one (.step 3 .last (.step 4 .any (.nil)))))⟩
  | 16 => ⟨true, [3], .step 0 .held (.step 1 .held (.step 2 .one (.step 3 .last (.step 4 .any (.nil)))))⟩
  | 31 => ⟨true, [3, 5], .step 0 .held (.step 2 .held (.step 4 .any (.step 1 .one (.step 3 .last (.step 5 .last (.step 6 .any (.step 7 .any (.step 8 .any (.step 9 .any (.step 10 .any (.nil)))))))))))⟩
  | _ => ⟨false, [], .nil⟩
def S20 (v0 v1 v2 : Value) (k : Value → World → Prop) (w : World) : Prop :=
 Do Try.prog (sBox 31 v0) (fun t1 w2 =>
 Do Try.prog (sBox 31 v1) (fun t3 w4 =>
 Rd Try.prog (WS.at w4) (sLoad 31 t1) fun t5 =>
 CallK Try.prog 29 [t5, (.int .i64 1048576)] (fun t6 w7 =>
 Rd Try.prog (WS.at w7) (sBin .lss 3 true t6 (.int .i64 0)) fun t8 =>
 CondK t8
  (k (.bool true) w7)
  (Rd Try.prog (WS.at w7) (sLoad 31 t3) fun t9 =>
  CallK Try.prog 29 [t9, t6] (fun t10 w11 =>
  Rd Try.prog (WS.at w11) (sBin .lss 3 true t10 (.int .i64 0)) fun t12 =>
  CondK t12
   (k (.bool true) w11)
   (∃ S13 : World → Prop, ∃ h14 : S13 w11.drew,
   Rd Try.prog ⟨S13, w11.drew, h14⟩ (sLoad 31 t1) fun t15 =>
   Rd Try.prog ⟨S13, w11.drew, h14⟩ (sLoad 31 t3) fun t16 =>
   CallK Try.prog 31 [t15] (fun t17 w18 =>
   S13 w18 ∧ CallK Try.prog 31 [t16] (fun t19 w20 =>
   CallK Try.prog 69 [t17, t19, v2] (fun t21 w22 =>
   Rd Try.prog WS.any (sExtract t21 0) fun t23 =>
   Rd Try.prog WS.any (sExtract t21 1) fun t24 =>
   Rd Try.prog (WS.at w22) (sLoad 31 t1) fun t25 =>
   CallK Try.prog 31 [t25] (fun t26 w27 =>
   Do Try.prog (sAlloc 37) (fun t28 w29 =>
   Do Try.prog (sStore 37 t28 t26) (fun _ w30 =>
   Rd Try.prog (WS.at w30) (sLoad 31 t3) fun t31 =>
   CallK Try.prog 31 [t31] (fun t32 w33 =>
   Do Try.prog (sAlloc 37) (fun t34 w35 =>
   Do Try.prog (sStore 37 t34 t32) (fun _ w36 =>
   Rd Try.prog (WS.at w36) (sLoad 37 t28) fun t37 =>
   Rd Try.prog (WS.at w36) (sLoad 37 t34) fun t38 =>
   CallK Try.prog 70 [t37, t38, v2] (fun t39 w40 =>
   Rd Try.prog (WS.at w40) (sExtract t39 0) fun t41 =>
   Rd Try.prog (WS.at w40) (sExtract t39 1) fun t42 =>
   CallK Try.prog 26 [t41, t23] (fun t43 w44 =>
   Rd Try.prog (WS.at w44) (sUn .not t43) fun t45 =>
   GuardK t45 false (fun k w' => k t42 w') (fun t46 w47 =>
   GuardK t45 false (fun k w' => k t24 w') (fun t48 w49 =>
   GuardK t45 false (fun k w' => Rd Try.prog (WS.at w49) (sBin .neq 4 false t46 t48) fun v => k v w') (fun t50 w51 =>
   Rd Try.prog (WS.at w51) (sPick t45 (.bool true) t50) fun t52 =>
   CondK t52
    (k (.bool false) w51)
    (∃ S53 : World → Prop, ∃ h54 : S53 w51.drew,
    Rd Try.prog ⟨S53, w51.drew, h54⟩ (sLoad 37 t28) fun t55 =>
    Rd Try.prog ⟨S53, w51.drew, h54⟩ (sLoad 31 t1) fun t56 =>
    CallK Try.prog 31 [t56] (fun t57 w58 =>
    S53 w58 ∧ CallK Try.prog 33 [t55, t57] (fun t59 w60 =>
    Rd Try.prog WS.any (sUn .not t59) fun t61 =>
    CondK t61
     (k (.bool false) w60)
     (∃ S62 : World → Prop, ∃ h63 : S62 w60.drew,
     Rd Try.prog ⟨S62, w60.drew, h63⟩ (sLoad 37 t34) fun t64 =>
     Rd Try.prog ⟨S62, w60.drew, h63⟩ (sLoad 31 t3) fun t65 =>
     CallK Try.prog 31 [t65] (fun t66 w67 =>
     S62 w67 ∧ CallK Try.prog 33 [t64, t66] (fun t68 w69 =>
     Rd Try.prog WS.any (sUn .not t68) fun t70 =>
     CondK t70
      (k (.bool false) w69)
      (Rd Try.prog (WS.at w69) (sLoad 37 t28) fun t71 =>
      CallK Try.prog 36 [t71, (.int .i64 1)] (fun t72 w73 =>
      Rd Try.prog (WS.at w73) (sLoad 37 t34) fun t74 =>
      CallK Try.prog 36 [t74, t72] (fun t75 w76 =>
      Rd Try.prog (WS.at w76) (sBin .lss 3 true t75 (.int .i64 0)) fun t77 =>
      GuardK t77 false (fun k w' => k t41 w') (fun t78 w79 =>
      GuardK t77 false (fun k w' => k t23 w') (fun t80 w81 =>
      GuardK t77 false (fun k w' => CallK Try.prog 26 [t78, t80] k w') (fun t82 w83 =>
      GuardK t77 false (fun k w' => Rd Try.prog (WS.at w83) (sUn .not t82) fun v => k v w') (fun t84 w85 =>
      Rd Try.prog (WS.at w85) (sPick t77 (.bool true) t84) fun t86 =>
      GuardK t86 false (fun k w' => k t42 w') (fun t87 w88 =>
      GuardK t86 false (fun k w' => k t24 w') (fun t89 w90 =>
      GuardK t86 false (fun k w' => Rd Try.prog (WS.at w90) (sBin .neq 4 false t87 t89) fun v => k v w') (fun t91 w92 =>
      Rd Try.prog (WS.at w92) (sPick t86 (.bool true) t91) fun t93 =>
      CondK t93
       (k (.bool false) w92)
       (CallK Try.prog 27 [t41, (.int .i64 1)] (fun t94 w95 =>
       CallK Try.prog 28 [t41, (.int .i64 1)] (fun t96 w97 =>
       Rd Try.prog (WS.at w97) (sBin .lss 3 true t96 (.int .i64 0)) fun t98 =>
       CondK t98
        (k (.bool false) w97)
        (Rd Try.prog (WS.at w97) (sBin .neq 3 false t96 t94) fun t99 =>
        CondK t99
         (k (.bool false) w97)
         (∃ S100 : World → Prop, ∃ h101 : S100 w97.drew,
         Rd Try.prog ⟨S100, w97.drew, h101⟩ (sLoad 31 t1) fun t102 =>
         Rd Try.prog ⟨S100, w97.drew, h101⟩ (sLoad 31 t3) fun t103 =>
         CallK Try.prog 31 [t102] (fun t104 w105 =>
         S100 w105 ∧ CallK Try.prog 31 [t103] (fun t106 w107 =>
         CallK Try.prog 70 [t104, t106, v2] (fun t108 w109 =>
         Rd Try.prog WS.any (sExtract t108 0) fun t110 =>
         Rd Try.prog WS.any (sExtract t108 1) fun t111 =>
         CallK Try.prog 26 [t110, t23] (fun t112 w113 =>
         Rd Try.prog (WS.at w113) (sUn .not t112) fun t114 =>
         GuardK t114 false (fun k w' => k t111 w') (fun t115 w116 =>
         GuardK t114 false (fun k w' => k t24 w') (fun t117 w118 =>
         GuardK t114 false (fun k w' => Rd Try.prog (WS.at w118) (sBin .neq 4 false t115 t117) fun v => k v w') (fun t119 w120 =>
         Rd Try.prog (WS.at w120) (sPick t114 (.bool true) t119) fun t121 =>
         CondK t121
          (k (.bool false) w120)
          (CallK Try.prog 28 [t41, (.int .i64 1)] (fun t122 w123 =>
          Rd Try.prog (WS.at w123) (sBin .lss 3 true t122 (.int .i64 0)) fun t124 =>
          CondK t124
           (k (.bool false) w123)
           (Rd Try.prog (WS.at w123) (sBin .neq 3 false t122 t94) fun t125 =>
           CondK t125
            (k (.bool false) w123)
            (k (.bool true) w123))) w120)) w118) w116) w113) w109) w107) w105) w97.drew))) w95) w92)) w90) w88) w85) w83) w81) w79) w76) w73) w69)) w67) w60.drew)) w58) w51.drew)) w49) w47) w44) w40) w36) w35) w33) w30) w29) w27) w22) w20) w18) w11.drew)) w7)) w4) w2) w
theorem body20 : Try.f20.body = some (bodyOf Try.f20) := by kernel_rfl
theorem same20 (v0 v1 v2 : Value) (k : Value → World → Prop) (w : World) : wpF Try.prog pl20 (bodyOf Try.f20) (bodyQ Try.prog Try.f20.results.toList k) (initF [v0, v1, v2]) w = S20 v0 v1 v2 k w := by kernel_rfl
theorem enter20 {v0 v1 v2 : Value} {k : Value → World → Prop} {w : World} (h : S20 v0 v1 v2 k w) : CallK Try.prog 20 [v0, v1, v2] k w :=
  call_of_wpF (pl := pl20) mixed Try.func20 body20 (by kernel_rfl) (of_decide_eq_true (by kernel_rfl)) (by kernel_rfl) (by kernel_rfl) (same20 v0 v1 v2 k w ▸ h)

/-! loop.example/g00758/spec.CountByLong -/
def pl53 : Plans := fun _ => ⟨false, [], .nil⟩
def S53 (v0 v1 : Value) (k : Value → World → Prop) (w : World) : Prop :=
 Do Try.prog (sBox 37 v0) (fun t1 w2 =>
 Rd Try.prog (WS.at w2) (sLoad 37 t1) fun t3 =>
 CallK Try.prog 105 [t3, v1] (fun t4 w5 =>
 Rd Try.prog (WS.at w5) (sExtract t4 0) fun t6 =>
 Rd Try.prog (WS.at w5) (sExtract t4 1) fun t7 =>
 Rd Try.prog (WS.at w5) (sUn .not t7) fun t8 =>
 CondK t8
  (k (.tuple #[(.slice none 0 0), (.bool false)]) w5)
  (Rd Try.prog (WS.at w5) (sBin .add 3 true v1 (.int .i64 1)) fun t9 =>
  Do Try.prog (sMakeSlice 22 t9 t9) (fun t10 w11 =>
  Rd Try.prog (WS.at w11) (sBuiltin .len #[48] 3 [false] [t6]) fun t12 =>
  LoopF [25, 26, 27, 10, 28, 29, 30, 31, 32, 33, 34, 35, 24] (fun Q13 f14 w15 =>
   Rd Try.prog (WS.at w15) (sBin .lss 3 false (f14 24) (f14 23)) fun t16 =>
   CondK t16
    (Rd Try.prog (WS.at w15) (sIndexAddr 48 (f14 22) (f14 24)) fun t17 =>
    Rd Try.prog (WS.at w15) (sLoad 22 t17) fun t18 =>
    Rd Try.prog (WS.at w15) (sBuiltin .len #[22] 3 [false] [t18]) fun t19 =>
    Rd Try.prog (WS.at w15) (sIndexAddr 22 (f14 8) t19) fun t20 =>
    Rd Try.prog (WS.at w15) (sLoad 3 t20) fun t21 =>
    Rd Try.prog (WS.at w15) (sBin .add 3 true t21 (.int .i64 1)) fun t22 =>
    Rd Try.prog (WS.at w15) (sIndexAddr 22 (f14 8) t19) fun t23 =>
    Do Try.prog (sStore 3 t23 t22) (fun _ w24 =>
    Rd Try.prog (WS.at w24) (sBin .add 3 true (f14 24) (.int .i64 1)) fun t25 =>
    Q13 .normal (F.upd (F.upd (F.upd (F.upd (F.upd (F.upd (F.upd (F.upd (F.upd (F.upd (F.upd (F.upd (F.upd f14 25 t16) 26 t17) 27 t18) 10 t18) 28 (f14 8)) 29 t18) 30 t19) 31 t20) 32 t21) 33 t22) 34 t23) 35 t25) 24 t25) w24) w15)
    (Q13 (.exit 0) (F.upd f14 25 t16) w15))
   (blockQ 0 (seqQ (fun f26 w27 =>
  k (.tuple #[(f26 8), (.bool true)]) w27) (bodyQ Try.prog [.tmp 4, .tmp 5] k)))
   (F.upd (F.upd (F.upd (F.upd (F.upd (F.upd (F.upd (F.upd (F.upd (F.upd (F.upd (F.upd (F.upd (F.upd (F.upd (F.upd (F.upd (F.upd (F.upd (F.upd (initF [v0, v1]) 2 t1) 4 (.slice none 0 0)) 5 (.bool false)) 12 t3) 13 v1) 14 t4) 11 t4) 15 t6) 16 t7) 6 t6) 7 t7) 17 t7) 18 t8) 19 v1) 20 t9) 21 t10) 8 t10) 22 t6) 23 t12) 24 (.int .i64 0)) w11) w5)) w2) w
theorem body53 : Try.f53.body = some (bodyOf Try.f53) := by kernel_rfl
theorem same53 (v0 v1 : Value) (k : Value → World → Prop) (w : World) : wpF Try.prog pl53 (bodyOf Try.f53) (bodyQ Try.prog Try.f53.results.toList k) (initF [v0, v1]) w = S53 v0 v1 k w := by kernel_rfl
theorem enter53 {v0 v1 : Value} {k : Value → World → Prop} {w : World} (h : S53 v0 v1 k w) : CallK Try.prog 53 [v0, v1] k w :=
  call_of_wpF (pl := pl53) mixed Try.func53 body53 (by kernel_rfl) (of_decide_eq_true (by kernel_rfl)) (by kernel_rfl) (by kernel_rfl) (same53 v0 v1 k w ▸ h)

/-! loop.example/g00758/impl.CountByLong -/
def pl54 : Plans := fun _ => ⟨false, [], .nil⟩
def S54 (v0 v1 : Value) (k : Value → World → Prop) (w : World) : Prop :=
 Do Try.prog (sBox 37 v0) (fun t1 w2 =>
 Rd Try.prog (WS.at w2) (sLoad 37 t1) fun t3 =>
 CallK Try.prog 106 [t3, v1] (fun t4 w5 =>
 Rd Try.prog (WS.at w5) (sExtract t4 0) fun t6 =>
 Rd Try.prog (WS.at w5) (sExtract t4 1) fun t7 =>
 Rd Try.prog (WS.at w5) (sUn .not t7) fun t8 =>
 CondK t8
  (k (.tuple #[(.slice none 0 0), (.bool false)]) w5)
  (Rd Try.prog (WS.at w5) (sBin .add 3 true v1 (.int .i64 1)) fun t9 =>
  Do Try.prog (sMakeSlice 22 t9 t9) (fun t10 w11 =>
  Rd Try.prog (WS.at w11) (sBuiltin .len #[48] 3 [false] [t6]) fun t12 =>
  LoopF [25, 26, 27, 10, 28, 29, 30, 31, 32, 33, 34, 35, 24] (fun Q13 f14 w15 =>
   Rd Try.prog (WS.at w15) (sBin .lss 3 false (f14 24) (f14 23)) fun t16 =>
   CondK t16
    (Rd Try.prog (WS.at w15) (sIndexAddr 48 (f14 22) (f14 24)) fun t17 =>
    Rd Try.prog (WS.at w15) (sLoad 22 t17) fun t18 =>
    Rd Try.prog (WS.at w15) (sBuiltin .len #[22] 3 [false] [t18]) fun t19 =>
    Rd Try.prog (WS.at w15) (sIndexAddr 22 (f14 8) t19) fun t20 =>
    Rd Try.prog (WS.at w15) (sLoad 3 t20) fun t21 =>
    Rd Try.prog (WS.at w15) (sBin .add 3 true t21 (.int .i64 1)) fun t22 =>
    Rd Try.prog (WS.at w15) (sIndexAddr 22 (f14 8) t19) fun t23 =>
    Do Try.prog (sStore 3 t23 t22) (fun _ w24 =>
    Rd Try.prog (WS.at w24) (sBin .add 3 true (f14 24) (.int .i64 1)) fun t25 =>
    Q13 .normal (F.upd (F.upd (F.upd (F.upd (F.upd (F.upd (F.upd (F.upd (F.upd (F.upd (F.upd (F.upd (F.upd f14 25 t16) 26 t17) 27 t18) 10 t18) 28 (f14 8)) 29 t18) 30 t19) 31 t20) 32 t21) 33 t22) 34 t23) 35 t25) 24 t25) w24) w15)
    (Q13 (.exit 0) (F.upd f14 25 t16) w15))
   (blockQ 0 (seqQ (fun f26 w27 =>
  k (.tuple #[(f26 8), (.bool true)]) w27) (bodyQ Try.prog [.tmp 4, .tmp 5] k)))
   (F.upd (F.upd (F.upd (F.upd (F.upd (F.upd (F.upd (F.upd (F.upd (F.upd (F.upd (F.upd (F.upd (F.upd (F.upd (F.upd (F.upd (F.upd (F.upd (F.upd (initF [v0, v1]) 2 t1) 4 (.slice none 0 0)) 5 (.bool false)) 12 t3) 13 v1) 14 t4) 11 t4) 15 t6) 16 t7) 6 t6) 7 t7) 17 t7) 18 t8) 19 v1) 20 t9) 21 t10) 8 t10) 22 t6) 23 t12) 24 (.int .i64 0)) w11) w5)) w2) w
theorem body54 : Try.f54.body = some (bodyOf Try.f54) := by kernel_rfl
theorem same54 (v0 v1 : Value) (k : Value → World → Prop) (w : World) : wpF Try.prog pl54 (bodyOf Try.f54) (bodyQ Try.prog Try.f54.results.toList k) (initF [v0, v1]) w = S54 v0 v1 k w := by kernel_rfl
theorem enter54 {v0 v1 : Value} {k : Value → World → Prop} {w : World} (h : S54 v0 v1 k w) : CallK Try.prog 54 [v0, v1] k w :=
  call_of_wpF (pl := pl54) mixed Try.func54 body54 (by kernel_rfl) (of_decide_eq_true (by kernel_rfl)) (by kernel_rfl) (by kernel_rfl) (same54 v0 v1 k w ▸ h)

/-! loop.example/g00758/spec.SameUpTo -/
def pl55 : Plans := fun _ => ⟨false, [], .nil⟩
def S55 (v0 v1 v2 : Value) (k : Value → World → Prop) (w : World) : Prop :=
 Do Try.prog (sBox 37 v0) (fun t1 w2 =>
 Do Try.prog (sBox 37 v1) (fun t3 w4 =>
 Rd Try.prog (WS.at w4) (sLoad 37 t1) fun t5 =>
 CallK Try.prog 105 [t5, v2] (fun t6 w7 =>
 Rd Try.prog (WS.at w7) (sExtract t6 0) fun t8 =>
 Rd Try.prog (WS.at w7) (sExtract t6 1) fun t9 =>
 Rd Try.prog (WS.at w7) (sLoad 37 t3) fun t10 =>
 CallK Try.prog 105 [t10, v2] (fun t11 w12 =>
 Rd Try.prog (WS.at w12) (sExtract t11 0) fun t13 =>
 Rd Try.prog (WS.at w12) (sExtract t11 1) fun t14 =>
 Rd Try.prog (WS.at w12) (sUn .not t9) fun t15 =>
 GuardK t15 false (fun k w' => k t14 w') (fun t16 w17 =>
 GuardK t15 false (fun k w' => Rd Try.prog (WS.at w17) (sUn .not t16) fun v => k v w') (fun t18 w19 =>
 Rd Try.prog (WS.at w19) (sPick t15 (.bool true) t18) fun t20 =>
 GuardK t20 false (fun k w' => Rd Try.prog (WS.at w19) (sLoad 37 t1) fun v => k v w') (fun t21 w22 =>
 GuardK t20 false (fun k w' => Rd Try.prog (WS.at w22) (sLoad 37 t3) fun v => k v w') (fun t23 w24 =>
 GuardK t20 false (fun k w' => CallK Try.prog 90 [t21, t23] k w') (fun t25 w26 =>
 GuardK t20 false (fun k w' => Rd Try.prog (WS.at w26) (sUn .not t25) fun v => k v w') (fun t27 w28 =>
 Rd Try.prog (WS.at w28) (sPick t20 (.bool true) t27) fun t29 =>
 CondK t29
  (k (.tuple #[(.bool false), (.bool false)]) w28)
  (CallK Try.prog 107 [t8, t13] (fun t30 w31 =>
  Rd Try.prog (WS.at w31) (sExtract t30 0) fun t32 =>
  Rd Try.prog (WS.at w31) (sExtract t30 1) fun t33 =>
  Rd Try.prog (WS.at w31) (sUn .not t33) fun t34 =>
  k (.tuple #[t34, (.bool true)]) w31) w28)) w26) w24) w22) w19) w17) w12) w7) w4) w2) w
theorem body55 : Try.f55.body = some (bodyOf Try.f55) := by kernel_rfl
theorem same55 (v0 v1 v2 : Value) (k : Value → World → Prop) (w : World) : wpF Try.prog pl55 (bodyOf Try.f55) (bodyQ Try.prog Try.f55.results.toList k) (initF [v0, v1, v2]) w = S55 v0 v1 v2 k w := by kernel_rfl
theorem enter55 {v0 v1 v2 : Value} {k : Value → World → Prop} {w : World} (h : S55 v0 v1 v2 k w) : CallK Try.prog 55 [v0, v1, v2] k w :=
  call_of_wpF (pl := pl55) mixed Try.func55 body55 (by kernel_rfl) (of_decide_eq_true (by kernel_rfl)) (by kernel_rfl) (by kernel_rfl) (same55 v0 v1 v2 k w ▸ h)

/-! loop.example/g00758/impl.SameUpTo -/
def pl56 : Plans := fun _ => ⟨false, [], .nil⟩
def S56 (v0 v1 v2 : Value) (k : Value → World → Prop) (w : World) : Prop :=
 Do Try.prog (sBox 37 v0) (fun t1 w2 =>
 Do Try.prog (sBox 37 v1) (fun t3 w4 =>
 Rd Try.prog (WS.at w4) (sLoad 37 t1) fun t5 =>
 CallK Try.prog 106 [t5, v2] (fun t6 w7 =>
 Rd Try.prog (WS.at w7) (sExtract t6 0) fun t8 =>
 Rd Try.prog (WS.at w7) (sExtract t6 1) fun t9 =>
 Rd Try.prog (WS.at w7) (sLoad 37 t3) fun t10 =>
 CallK Try.prog 106 [t10, v2] (fun t11 w12 =>
 Rd Try.prog (WS.at w12) (sExtract t11 0) fun t13 =>
 Rd Try.prog (WS.at w12) (sExtract t11 1) fun t14 =>
 Rd Try.prog (WS.at w12) (sUn .not t9) fun t15 =>
 GuardK t15 false (fun k w' => k t14 w') (fun t16 w17 =>
 GuardK t15 false (fun k w' => Rd Try.prog (WS.at w17) (sUn .not t16) fun v => k v w') (fun t18 w19 =>
 Rd Try.prog (WS.at w19) (sPick t15 (.bool true) t18) fun t20 =>
 GuardK t20 false (fun k w' => Rd Try.prog (WS.at w19) (sFieldAddr 37 t1 1) fun v => k v w') (fun t21 w22 =>
 GuardK t20 false (fun k w' => Rd Try.prog (WS.at w22) (sLoad 3 t21) fun v => k v w') (fun t23 w24 =>
 GuardK t20 false (fun k w' => Rd Try.prog (WS.at w24) (sFieldAddr 37 t3 1) fun v => k v w') (fun t25 w26 =>
 GuardK t20 false (fun k w' => Rd Try.prog (WS.at w26) (sLoad 3 t25) fun v => k v w') (fun t27 w28 =>
 GuardK t20 false (fun k w' => Rd Try.prog (WS.at w28) (sBin .neq 3 false t23 t27) fun v => k v w') (fun t29 w30 =>
 Rd Try.prog (WS.at w30) (sPick t20 (.bool true) t29) fun t31 =>
 CondK t31
  (k (.tuple #[(.bool false), (.bool false)]) w30)
  (CallK Try.prog 108 [t8, t13, (.func (.func 109) #[] #[])] (fun t32 w33 =>
  k (.tuple #[t32, (.bool true)]) w33) w30)) w28) w26) w24) w22) w19) w17) w12) w7) w4) w2) w
theorem body56 : Try.f56.body = some (bodyOf Try.f56) := by kernel_rfl
theorem same56 (v0 v1 v2 : Value) (k : Value → World → Prop) (w : World) : wpF Try.prog pl56 (bodyOf Try.f56) (bodyQ Try.prog Try.f56.results.toList k) (initF [v0, v1, v2]) w = S56 v0 v1 v2 k w := by kernel_rfl
theorem enter56 {v0 v1 v2 : Value} {k : Value → World → Prop} {w : World} (h : S56 v0 v1 v2 k w) : CallK Try.prog 56 [v0, v1, v2] k w :=
  call_of_wpF (pl := pl56) mixed Try.func56 body56 (by kernel_rfl) (of_decide_eq_true (by kernel_rfl)) (by kernel_rfl) (by kernel_rfl) (same56 v0 v1 v2 k w ▸ h)

/-! loop.example/g00758/spec.NearWord -/
def pl67 : Plans := fun _ => ⟨false, [], .nil⟩
def S67 (v0 v1 v2 : Value) (k : Value → World → Prop) (w : World) : Prop :=
 Do Try.prog (sBox 37 v0) (fun t1 w2 =>
 Rd Try.prog (WS.at w2) (sLoad 37 t1) fun t3 =>
 CallK Try.prog 105 [t3, v2] (fun t4 w5 =>
 Rd Try.prog (WS.at w5) (sExtract t4 0) fun t6 =>
 Rd Try.prog (WS.at w5) (sExtract t4 1) fun t7 =>
 Rd Try.prog (WS.at w5) (sUn .not t7) fun t8 =>
 GuardK t8 false (fun k w' => Rd Try.prog (WS.at w5) (sLoad 37 t1) fun v => k v w') (fun t9 w10 =>
 GuardK t8 false (fun k w' => k v1 w') (fun t11 w12 =>
 GuardK t8 false (fun k w' => CallK Try.prog 97 [t9, t11] k w') (fun t13 w14 =>
 GuardK t8 false (fun k w' => Rd Try.prog (WS.at w14) (sUn .not t13) fun v => k v w') (fun t15 w16 =>
 Rd Try.prog (WS.at w16) (sPick t8 (.bool true) t15) fun t17 =>
 GuardK t17 false (fun k w' => k t6 w') (fun t18 w19 =>
 GuardK t17 false (fun k w' => Rd Try.prog (WS.at w19) (sBuiltin .len #[48] 3 [false] [t18]) fun v => k v w') (fun t20 w21 =>
 GuardK t17 false (fun k w' => Rd Try.prog (WS.at w21) (sBin .eql 3 true t20 (.int .i64 0)) fun v => k v w') (fun t22 w23 =>
 Rd Try.prog (WS.at w23) (sPick t17 (.bool true) t22) fun t24 =>
 CondK t24
  (k (.tuple #[(.slice none 0 0), (.bool false)]) w23)
  (Rd Try.prog (WS.at w23) (sIndexAddr 48 t6 (.int .i64 0)) fun t25 =>
  Rd Try.prog (WS.at w23) (sLoad 22 t25) fun t26 =>
  Rd Try.prog (WS.at w23) (sBuiltin .len #[48] 3 [false] [t6]) fun t27 =>
  LoopF [38, 39, 40, 12, 41, 42, 43, 44, 45, 46, 47, 48, 10, 49, 37] (fun Q28 f29 w30 =>
   Rd Try.prog (WS.at w30) (sBin .lss 3 false (f29 37) (f29 36)) fun t31 =>
   CondK t31
    (Join (fun K32 =>
    Rd Try.prog (WS.at w30) (sIndexAddr 48 (f29 35) (f29 37)) fun t35 =>
    Rd Try.prog (WS.at w30) (sLoad 22 t35) fun t36 =>
    CallK Try.prog 121 [(f29 1), t36] (fun t37 w38 =>
    CallK Try.prog 121 [(f29 1), (f29 10)] (fun t39 w40 =>
    Rd Try.prog (WS.at w40) (sBin .lss 3 false t37 t39) fun t41 =>
    CondK t41
     (K32 (F.upd (F.upd (F.upd (F.upd (F.upd (F.upd (F.upd (F.upd (F.upd (F.upd (F.upd (F.upd (F.upd f29 38 t31) 39 t35) 40 t36) 12 t36) 41 (f29 1)) 42 t36) 43 t37) 44 (f29 1)) 45 (f29 10)) 46 t39) 47 t41) 48 t36) 10 t36) w40)
     (K32 (F.upd (F.upd (F.upd (F.upd (F.upd (F.upd (F.upd (F.upd (F.upd (F.upd (F.upd f29 38 t31) 39 t35) 40 t36) 12 t36) 41 (f29 1)) 42 t36) 43 t37) 44 (f29 1)) 45 (f29 10)) 46 t39) 47 t41) w40)) w38) w30) (fun f33 w34 =>
    Rd Try.prog (WS.at w34) (sBin .add 3 true (f33 37) (.int .i64 1)) fun t42 =>
    Q28 .normal (F.upd (F.upd f33 49 t42) 37 t42) w34))
    (Q28 (.exit 0) (F.upd f29 38 t31) w30))
   (blockQ 0 (seqQ (fun f43 w44 =>
  k (.tuple #[(f43 10), (.bool true)]) w44) (bodyQ Try.prog [.tmp 6, .tmp 7] k)))
   (F.upd (F.upd (F.upd (F.upd (F.upd (F.upd (F.upd (F.upd (F.upd (F.upd (F.upd (F.upd (F.upd (F.upd (F.upd (F.upd (F.upd (F.upd (F.upd (F.upd (F.upd (F.upd (F.upd (F.upd (F.upd (F.upd (F.upd (F.upd (F.upd (F.upd (F.upd (initF [v0, v1, v2]) 3 t1) 6 (.slice none 0 0)) 7 (.bool false)) 14 t3) 15 v2) 16 t4) 13 t4) 17 t6) 18 t7) 8 t6) 9 t7) 19 t7) 20 t8) 21 t8) 22 t9) 23 t11) 24 t13) 25 t15) 26 t17) 27 t17) 28 t18) 29 t20) 30 t22) 31 t24) 32 t6) 33 t25) 34 t26) 10 t26) 35 t6) 36 t27) 37 (.int .i64 0)) w23)) w21) w19) w16) w14) w12) w10) w5) w2) w
theorem body67 : Try.f67.body = some (bodyOf Try.f67) := by kernel_rfl
theorem same67 (v0 v1 v2 : Value) (k : Value → World → Prop) (w : World) : wpF Try.prog pl67 (bodyOf Try.f67) (bodyQ Try.prog Try.f67.results.toList k) (initF [v0, v1, v2]) w = S67 v0 v1 v2 k w := by kernel_rfl
theorem enter67 {v0 v1 v2 : Value} {k : Value → World → Prop} {w : World} (h : S67 v0 v1 v2 k w) : CallK Try.prog 67 [v0, v1, v2] k w :=
  call_of_wpF (pl := pl67) mixed Try.func67 body67 (by kernel_rfl) (of_decide_eq_true (by kernel_rfl)) (by kernel_rfl) (by kernel_rfl) (same67 v0 v1 v2 k w ▸ h)

/-! loop.example/g00758/impl.NearWord -/
def pl68 : Plans := fun _ => ⟨false, [], .nil⟩
def S68 (v0 v1 v2 : Value) (k : Value → World → Prop) (w : World) : Prop :=
 Do Try.prog (sBox 37 v0) (fun t1 w2 =>
 Rd Try.prog (WS.at w2) (sLoad 37 t1) fun t3 =>
 CallK Try.prog 106 [t3, v2] (fun t4 w5 =>
 Rd Try.prog (WS.at w5) (sExtract t4 0) fun t6 =>
 Rd Try.prog (WS.at w5) (sExtract t4 1) fun t7 =>
 Rd Try.prog (WS.at w5) (sUn .not t7) fun t8 =>
 GuardK t8 false (fun k w' => Rd Try.prog (WS.at w5) (sFieldAddr 37 t1 1) fun v => k v w') (fun t9 w10 =>
 GuardK t8 false (fun k w' => Rd Try.prog (WS.at w10) (sLoad 3 t9) fun v => k v w') (fun t11 w12 =>
 GuardK t8 false (fun k w' => k v1 w') (fun t13 w14 =>
 GuardK t8 false (fun k w' => CallK Try.prog 99 [t11, t13] k w') (fun t15 w16 =>
 GuardK t8 false (fun k w' => Rd Try.prog (WS.at w16) (sUn .not t15) fun v => k v w') (fun t17 w18 =>
 Rd Try.prog (WS.at w18) (sPick t8 (.bool true) t17) fun t19 =>
 GuardK t19 false (fun k w' => k v1 w') (fun t20 w21 =>
 GuardK t19 false (fun k w' => Rd Try.prog (WS.at w21) (sBuiltin .len #[22] 3 [false] [t20]) fun v => k v w') (fun t22 w23 =>
 GuardK t19 false (fun k w' => Rd Try.prog (WS.at w23) (sBin .gtr 3 true t22 (.int .i64 8)) fun v => k v w') (fun t24 w25 =>
 Rd Try.prog (WS.at w25) (sPick t19 (.bool true) t24) fun t26 =>
 GuardK t26 false (fun k w' => k t6 w') (fun t27 w28 =>
 GuardK t26 false (fun k w' => Rd Try.prog (WS.at w28) (sBuiltin .len #[48] 3 [false] [t27]) fun v => k v w') (fun t29 w30 =>
 GuardK t26 false (fun k w' => Rd Try.prog (WS.at w30) (sBin .eql 3 true t29 (.int .i64 0)) fun v => k v w') (fun t31 w32 =>
 Rd Try.prog (WS.at w32) (sPick t26 (.bool true) t31) fun t33 =>
 CondK t33
  (k (.tuple #[(.slice none 0 0), (.bool false)]) w32)
  (Rd Try.prog (WS.at w32) (sIndexAddr 48 t6 (.int .i64 0)) fun t34 =>
  Rd Try.prog (WS.at w32) (sLoad 22 t34) fun t35 =>
  Rd Try.prog (WS.at w32) (sBuiltin .len #[48] 3 [false] [t6]) fun t36 =>
  LoopF [44, 45, 46, 12, 47, 48, 49, 50, 51, 52, 53, 54, 10, 55, 43] (fun Q37 f38 w39 =>
   Rd Try.prog (WS.at w39) (sBin .lss 3 false (f38 43) (f38 42)) fun t40 =>
   CondK t40
    (Join (fun K41 =>
    Rd Try.prog (WS.at w39) (sIndexAddr 48 (f38 41) (f38 43)) fun t44 =>
    Rd Try.prog (WS.at w39) (sLoad 22 t44) fun t45 =>
    CallK Try.prog 122 [(f38 1), t45] (fun t46 w47 =>
    CallK Try.prog 122 [(f38 1), (f38 10)] (fun t48 w49 =>
    Rd Try.prog (WS.at w49) (sBin .lss 3 false t46 t48) fun t50 =>
    CondK t50
     (K41 (F.upd (F.upd (F.upd (F.upd (F.upd (F.upd (F.upd (F.upd (F.upd (F.upd (F.upd (F.upd (F.upd f38 44 t40) 45 t44) 46 t45) 12 t45) 47 (f38 1)) 48 t45) 49 t46) 50 (f38 1)) 51 (f38 10)) 52 t48) 53 t50) 54 t45) 10 t45) w49)
     (K41 (F.upd (F.upd (F.upd (F.upd (F.upd (F.upd (F.upd (F.upd (F.upd (F.upd (F.upd f38 44 t40) 45 t44) 46 t45) 12 t45) 47 (f38 1)) 48 t45) 49 t46) 50 (f38 1)) 51 (f38 10)) 52 t48) 53 t50) w49)) w47) w39) (fun f42 w43 =>
    Rd Try.prog (WS.at w43) (sBin .add 3 true (f42 43) (.int .i64 1)) fun t51 =>
    Q37 .normal (F.upd (F.upd f42 55 t51) 43 t51) w43))
    (Q37 (.exit 0) (F.upd f38 44 t40) w39))
   (blockQ 0 (seqQ (fun f52 w53 =>
  k (.tuple #[(f52 10), (.bool true)]) w53) (bodyQ Try.prog [.tmp 6, .tmp 7] k)))
   (F.upd (F.upd (F.upd (F.upd (F.upd (F.upd (F.upd (F.upd (F.upd (F.upd (F.upd (F.upd (F.upd (F.upd (F.upd (F.upd (F.upd (F.upd (F.upd (F.upd (F.upd (F.upd (F.upd (F.upd (F.upd (F.upd (F.upd (F.upd (F.upd (F.upd (F.upd (F.upd (F.upd (F.upd (F.upd (F.upd (F.upd (initF [v0, v1, v2]) 3 t1) 6 (.slice none 0 0)) 7 (.bool false)) 14 t3) 15 v2) 16 t4) 13 t4) 17 t6) 18 t7) 8 t6) 9 t7) 19 t7) 20 t8) 21 t8) 22 t9) 23 t11) 24 t13) 25 t15) 26 t17) 27 t19) 28 t19) 29 t20) 30 t22) 31 t24) 32 t26) 33 t26) 34 t27) 35 t29) 36 t31) 37 t33) 38 t6) 39 t34) 40 t35) 10 t35) 41 t6) 42 t36) 43 (.int .i64 0)) w32)) w30) w28) w25) w23) w21) w18) w16) w14) w12) w10) w5) w2) w
theorem body68 : Try.f68.body = some (bodyOf Try.f68) := by kernel_rfl
theorem same68 (v0 v1 v2 : Value) (k : Value → World → Prop) (w : World) : wpF Try.prog pl68 (bodyOf Try.f68) (bodyQ Try.prog Try.f68.results.toList k) (initF [v0, v1, v2]) w = S68 v0 v1 v2 k w := by kernel_rfl
theorem enter68 {v0 v1 v2 : Value} {k : Value → World → Prop} {w : World} (h : S68 v0 v1 v2 k w) : CallK Try.prog 68 [v0, v1, v2] k w :=
  call_of_wpF (pl := pl68) mixed Try.func68 body68 (by kernel_rfl) (of_decide_eq_true (by kernel_rfl)) (by kernel_rfl) (by kernel_rfl) (same68 v0 v1 v2 k w ▸ h)

/-! loop.example/g00758/spec.FirstUnlike -/
def pl69 : Plans := fun _ => ⟨false, [], .nil⟩
def S69 (v0 v1 v2 : Value) (k : Value → World → Prop) (w : World) : Prop :=
 Do Try.prog (sBox 37 v0) (fun t1 w2 =>
 Do Try.prog (sBox 37 v1) (fun t3 w4 =>
 Rd Try.prog (WS.at w4) (sLoad 37 t1) fun t5 =>
 CallK Try.prog 105 [t5, v2] (fun t6 w7 =>
 Rd Try.prog (WS.at w7) (sExtract t6 0) fun t8 =>
 Rd Try.prog (WS.at w7) (sExtract t6 1) fun t9 =>
 Rd Try.prog (WS.at w7) (sLoad 37 t3) fun t10 =>
 CallK Try.prog 105 [t10, v2] (fun t11 w12 =>
 Rd Try.prog (WS.at w12) (sExtract t11 0) fun t13 =>
 Rd Try.prog (WS.at w12) (sExtract t11 1) fun t14 =>
 Rd Try.prog (WS.at w12) (sUn .not t9) fun t15 =>
 GuardK t15 false (fun k w' => k t14 w') (fun t16 w17 =>
 GuardK t15 false (fun k w' => Rd Try.prog (WS.at w17) (sUn .not t16) fun v => k v w') (fun t18 w19 =>
 Rd Try.prog (WS.at w19) (sPick t15 (.bool true) t18) fun t20 =>
 GuardK t20 false (fun k w' => Rd Try.prog (WS.at w19) (sLoad 37 t1) fun v => k v w') (fun t21 w22 =>
 GuardK t20 false (fun k w' => Rd Try.prog (WS.at w22) (sLoad 37 t3) fun v => k v w') (fun t23 w24 =>
 GuardK t20 false (fun k w' => CallK Try.prog 90 [t21, t23] k w') (fun t25 w26 =>
 GuardK t20 false (fun k w' => Rd Try.prog (WS.at w26) (sUn .not t25) fun v => k v w') (fun t27 w28 =>
 Rd Try.prog (WS.at w28) (sPick t20 (.bool true) t27) fun t29 =>
 CondK t29
  (k (.tuple #[(.slice none 0 0), (.bool false)]) w28)
  (CallK Try.prog 107 [t8, t13] (fun t30 w31 =>
  Rd Try.prog (WS.at w31) (sExtract t30 0) fun t32 =>
  Rd Try.prog (WS.at w31) (sExtract t30 1) fun t33 =>
  k (.tuple #[t32, t33]) w31) w28)) w26) w24) w22) w19) w17) w12) w7) w4) w2) w
theorem body69 : Try.f69.body = some (bodyOf Try.f69) := by kernel_rfl
theorem same69 (v0 v1 v2 : Value) (k : Value → World → Prop) (w : World) : wpF Try.prog pl69 (bodyOf Try.f69) (bodyQ Try.prog Try.f69.results.toList k) (initF [v0, v1, v2]) w = S69 v0 v1 v2 k w := by kernel_rfl
theorem enter69 {v0 v1 v2 : Value} {k : Value → World → Prop} {w : World} (h : S69 v0 v1 v2 k w) : CallK Try.prog 69 [v0, v1, v2] k w :=
  call_of_wpF (pl := pl69) mixed Try.func69 body69 (by kernel_rfl) (of_decide_eq_true (by kernel_rfl)) (by kernel_rfl) (by kernel_rfl) (same69 v0 v1 v2 k w ▸ h)

/-! loop.example/g00758/impl.FirstUnlike -/
def pl70 : Plans := fun i => match i with
  | 7 => ⟨false, [14], .step 0 .any (.step 1 .any (.step 2 .any (.step 3 .any (.step 4 .any (.step 5 .any (.step 6 .any (.step 7 .any (.step 8 .any (.step 9 .any (.step 10 .held (.step 11 .any (.step 12 .any (.step 13 .held (.step 14 .last (.step 15 .any (.step 16 .any (.step 17 .any (.step 18 .any (.nil)))))))))))))))))))⟩
  | 9 => ⟨false, [10], .step 0 .any (.step 1 .any (.step 2 .any (.step 3 .any (.step 4 .any (.step 5 .any (.step 6 .held (.step 7 .any (.step 8 .any (.step 9 .held (.step 10 .last (.step 11 .any (.step 12 .any (.step 13 .any (.nil))))))))))))))⟩
  | _ => ⟨false, [], .nil⟩
def S70 (v0 v1 v2 : Value) (k : Value → World → Prop) (w : World) : Prop :=
 Do Try.prog (sBox 37 v0) (fun t1 w2 =>
 Do Try.prog (sBox 37 v1) (fun t3 w4 =>
 Rd Try.prog (WS.at w4) (sLoad 37 t1) fun t5 =>
 CallK Try.prog 106 [t5, v2] (fun t6 w7 =>
 Rd Try.prog (WS.at w7) (sExtract t6 0) fun t8 =>
 Rd Try.prog (WS.at w7) (sExtract t6 1) fun t9 =>
 Rd Try.prog (WS.at w7) (sLoad 37 t3) fun t10 =>
 CallK Try.prog 106 [t10, v2] (fun t11 w12 =>
 Rd Try.prog (WS.at w12) (sExtract t11 0) fun t13 =>
 Rd Try.prog (WS.at w12) (sExtract t11 1) fun t14 =>
 Rd Try.prog (WS.at w12) (sUn .not t9) fun t15 =>
 GuardK t15 false (fun k w' => k t14 w') (fun t16 w17 =>
 GuardK t15 false (fun k w' => Rd Try.prog (WS.at w17) (sUn .not t16) fun v => k v w') (fun t18 w19 =>
 Rd Try.prog (WS.at w19) (sPick t15 (.bool true) t18) fun t20 =>
 GuardK t20 false (fun k w' => Rd Try.prog (WS.at w19) (sFieldAddr 37 t1 1) fun v => k v w') (fun t21 w22 =>
 GuardK t20 false (fun k w' => Rd Try.prog (WS.at w22) (sLoad 3 t21) fun v => k v w') (fun t23 w24 =>
 GuardK t20 false (fun k w' => Rd Try.prog (WS.at w24) (sFieldAddr 37 t3 1) fun v => k v w') (fun t25 w26 =>
 GuardK t20 false (fun k w' => Rd Try.prog (WS.at w26) (sLoad 3 t25) fun v => k v w') (fun t27 w28 =>
 GuardK t20 false (fun k w' => Rd Try.prog (WS.at w28) (sBin .neq 3 false t23 t27) fun v => k v w') (fun t29 w30 =>
 Rd Try.prog (WS.at w30) (sPick t20 (.bool true) t29) fun t31 =>
 CondK t31
  (k (.tuple #[(.slice none 0 0), (.bool false)]) w30)
  (LoopF [38, 39, 40, 41, 42, 43, 44, 45, 37, 6, 7, 47, 48, 49, 50, 51, 52, 53, 54, 55, 56, 57, 58, 59, 60, 61, 62, 63, 64, 46, 65, 66, 67, 6, 7, 69, 70, 71, 72, 73, 74, 75, 76, 77, 78, 79, 80, 81, 68, 82, 83, 84, 6, 7, 85, 86, 8, 87, 88, 10] (fun Q32 f33 w34 =>
   Rd Try.prog (WS.at w34) (sBuiltin .len #[48] 3 [false] [(f33 8)]) fun t35 =>
   Rd Try.prog (WS.at w34) (sBin .eql 3 true t35 (.int .i64 0)) fun t36 =>
   GuardK t36 true (fun k w' => k (f33 10) w') (fun t37 w38 =>
   GuardK t36 true (fun k w' => Rd Try.prog (WS.at w38) (sBuiltin .len #[48] 3 [false] [t37]) fun v => k v w') (fun t39 w40 =>
   GuardK t36 true (fun k w' => Rd Try.prog (WS.at w40) (sBin .eql 3 true t39 (.int .i64 0)) fun v => k v w') (fun t41 w42 =>
   Rd Try.prog (WS.at w42) (sPick t36 t41 (.bool false)) fun t43 =>
   CondK t43
    (Q32 .ret (F.upd (F.upd (F.upd (F.upd (F.upd (F.upd (F.upd (F.upd (F.upd (F.upd (F.upd f33 38 (f33 8)) 39 t35) 40 t36) 41 t36) 42 t37) 43 t39) 44 t41) 45 t43) 37 t43) 6 (.slice none 0 0)) 7 (.bool false)) w42)
    (Rd Try.prog WS.any (sBuiltin .len #[48] 3 [false] [(f33 10)]) fun t44 =>
    Rd Try.prog WS.any (sBin .eql 3 true t44 (.int .i64 0)) fun t45 =>
    GuardK t45 false (fun k w' => k (f33 8) w') (fun t46 w47 =>
    GuardK t45 false (fun k w' => Rd Try.prog WS.any (sBuiltin .len #[48] 3 [false] [t46]) fun v => k v w') (fun t48 w49 =>
    GuardK t45 false (fun k w' => Rd Try.prog WS.any (sBin .gtr 3 true t48 (.int .i64 0)) fun v => k v w') (fun t50 w51 =>
    GuardK t45 false (fun k w' => k t50 w') (fun t52 w53 =>
    GuardK t52 true (fun k w' => k (f33 8) w') (fun t54 w55 =>
    GuardK t52 true (fun k w' => Rd Try.prog WS.any (sIndexAddr 48 t54 (.int .i64 0)) fun v => k v w') (fun t56 w57 =>
    GuardK t52 true (fun k w' => Rd Try.prog (WS.at w42.drew) (sLoad 22 t56) fun v => k v w') (fun t58 w59 =>
    GuardK t52 true (fun k w' => k (f33 10) w') (fun t60 w61 =>
    GuardK t52 true (fun k w' => Rd Try.prog WS.any (sIndexAddr 48 t60 (.int .i64 0)) fun v => k v w') (fun t62 w63 =>
    GuardK t52 true (fun k w' => Rd Try.prog (WS.at w42.drew) (sLoad 22 t62) fun v => k v w') (fun t64 w65 =>
    GuardK t52 true (fun k w' => CallK Try.prog 123 [t58, t64] k w') (fun t66 w67 =>
    GuardK t52 true (fun k w' => Rd Try.prog WS.any (sBin .lss 3 true t66 (.int .i64 0)) fun v => k v w') (fun t68 w69 =>
    GuardK t45 false (fun k w' => Rd Try.prog WS.any (sPick t52 t68 (.bool false)) fun v => k v w') (fun t70 w71 =>
    Rd Try.prog WS.any (sPick t45 (.bool true) t70) fun t72 =>
    CondK t72
     (Rd Try.prog (WS.at w71) (sIndexAddr 48 (f33 8) (.int .i64 0)) fun t73 =>
     Rd Try.prog (WS.at w71) (sLoad 22 t73) fun t74 =>
     Q32 .ret (F.upd (F.upd (F.upd (F.upd (F.upd (F.upd (F.upd (F.upd (F.upd (F.upd (F.upd (F.upd (F.upd (F.upd (F.upd (F.upd (F.upd (F.upd (F.upd (F.upd (F.upd (F.upd (F.upd (F.upd (F.upd (F.upd (F.upd (F.upd (F.upd (F.upd (F.upd (F.upd (F.upd f33 38 (f33 8)) 39 t35) 40 t36) 41 t36) 42 t37) 43 t39) 44 t41) 45 t43) 37 t43) 47 (f33 10)) 48 t44) 49 t45) 50 t45) 51 t46) 52 t48) 53 t50) 54 t52) 55 t54) 56 t56) 57 t58) 58 t60) 59 t62) 60 t64) 61 t66) 62 t68) 63 t70) 64 t72) 46 t72) 65 (f33 8)) 66 t73) 67 t74) 6 t74) 7 (.bool true)) w71)
     (Rd Try.prog WS.any (sBuiltin .len #[48] 3 [false] [(f33 8)]) fun t75 =>
     Rd Try.prog WS.any (sBin .eql 3 true t75 (.int .i64 0)) fun t76 =>
     GuardK t76 false (fun k w' => k (f33 8) w') (fun t77 w78 =>
     GuardK t76 false (fun k w' => Rd Try.prog WS.any (sIndexAddr 48 t77 (.int .i64 0)) fun v => k v w') (fun t79 w80 =>
     GuardK t76 false (fun k w' => Rd Try.prog (WS.at w71.drew) (sLoad 22 t79) fun v => k v w') (fun t81 w82 =>
     GuardK t76 false (fun k w' => k (f33 10) w') (fun t83 w84 =>
     GuardK t76 false (fun k w' => Rd Try.prog WS.any (sIndexAddr 48 t83 (.int .i64 0)) fun v => k v w') (fun t85 w86 =>
     GuardK t76 false (fun k w' => Rd Try.prog (WS.at w71.drew) (sLoad 22 t85) fun v => k v w') (fun t87 w88 =>
     GuardK t76 false (fun k w' => CallK Try.prog 123 [t81, t87] k w') (fun t89 w90 =>
     GuardK t76 false (fun k w' => Rd Try.prog WS.any (sBin .gtr 3 true t89 (.int .i64 0)) fun v => k v w') (fun t91 w92 =>
     Rd Try.prog WS.any (sPick t76 (.bool true) t91) fun t93 =>
     CondK t93
      (Rd Try.prog (WS.at w92) (sIndexAddr 48 (f33 10) (.int .i64 0)) fun t94 =>
      Rd Try.prog (WS.at w92) (sLoad 22 t94) fun t95 =>
      Q32 .ret (F.upd (F.upd (F.upd (F.upd (F.upd (F.upd (F.upd (F.upd (F.upd (F.upd (F.upd (F.upd (F.upd (F.upd (F.upd (F.upd (F.upd (F.upd (F.upd (F.upd (F.upd (F.upd (F.upd (F.upd (F.upd (F.upd (F.upd (F.upd (F.upd (F.upd (F.upd (F.upd (F.upd (F.upd (F.upd (F.upd (F.upd (F.upd (F.upd (F.upd (F.upd (F.upd (F.upd (F.upd (F.upd (F.upd (F.upd f33 38 (f33 8)) 39 t35) 40 t36) 41 t36) 42 t37) 43 t39) 44 t41) 45 t43) 37 t43) 47 (f33 10)) 48 t44) 49 t45) 50 t45) 51 t46) 52 t48) 53 t50) 54 t52) 55 t54) 56 t56) 57 t58) 58 t60) 59 t62) 60 t64) 61 t66) 62 t68) 63 t70) 64 t72) 46 t72) 69 (f33 8)) 70 t75) 71 t76) 72 t76) 73 t77) 74 t79) 75 t81) 76 t83) 77 t85) 78 t87) 79 t89) 80 t91) 81 t93) 68 t93) 82 (f33 10)) 83 t94) 84 t95) 6 t95) 7 (.bool true)) w92)
      (Rd Try.prog (WS.at w92) (sSlice 48 (f33 8) (some (.int .i64 1)) none none) fun t96 =>
      Rd Try.prog (WS.at w92) (sSlice 48 (f33 10) (some (.int .i64 1)) none none) fun t97 =>
      Q32 .normal (F.upd (F.upd (F.upd (F.upd (F.upd (F.upd (F.upd (F.upd (F.upd (F.upd (F.upd (F.upd (F.upd (F.upd (F.upd (F.upd (F.upd (F.upd (F.upd (F.upd (F.upd (F.upd (F.upd (F.upd (F.upd (F.upd (F.upd (F.upd (F.upd (F.upd (F.upd (F.upd (F.upd (F.upd (F.upd (F.upd (F.upd (F.upd (F.upd (F.upd (F.upd (F.upd (F.upd (F.upd (F.upd (F.upd (F.upd (F.upd f33 38 (f33 8)) 39 t35) 40 t36) 41 t36) 42 t37) 43 t39) 44 t41) 45 t43) 37 t43) 47 (f33 10)) 48 t44) 49 t45) 50 t45) 51 t46) 52 t48) 53 t50) 54 t52) 55 t54) 56 t56) 57 t58) 58 t60) 59 t62) 60 t64) 61 t66) 62 t68) 63 t70) 64 t72) 46 t72) 69 (f33 8)) 70 t75) 71 t76) 72 t76) 73 t77) 74 t79) 75 t81) 76 t83) 77 t85) 78 t87) 79 t89) 80 t91) 81 t93) 68 t93) 85 (f33 8)) 86 t96) 8 t96) 87 (f33 10)) 88 t97) 10 t97) w92)) w90) w88) w86) w84) w82) w80) w78) w71.drew)) w69) w67) w65) w63) w61) w59) w57) w55) w53) w51) w49) w47) w42.drew)) w40) w38) w34)
   (blockQ 0 (bodyQ Try.prog [.tmp 6, .tmp 7] k))
   (F.upd (F.upd (F.upd (F.upd (F.upd (F.upd (F.upd (F.upd (F.upd (F.upd (F.upd (F.upd (F.upd (F.upd (F.upd (F.upd (F.upd (F.upd (F.upd (F.upd (F.upd (F.upd (F.upd (F.upd (F.upd (F.upd (F.upd (F.upd (F.upd (F.upd (F.upd (F.upd (F.upd (initF [v0, v1, v2]) 3 t1) 4 t3) 6 (.slice none 0 0)) 7 (.bool false)) 13 t5) 14 v2) 15 t6) 12 t6) 16 t8) 17 t9) 8 t8) 9 t9) 19 t10) 20 v2) 21 t11) 18 t11) 22 t13) 23 t14) 10 t13) 11 t14) 24 t9) 25 t15) 26 t15) 27 t16) 28 t18) 29 t20) 30 t20) 31 t21) 32 t23) 33 t25) 34 t27) 35 t29) 36 t31) w30)) w28) w26) w24) w22) w19) w17) w12) w7) w4) w2) w
theorem body70 : Try.f70.body = some (bodyOf Try.f70) := by kernel_rfl
theorem same70 (v0 v1 v2 : Value) (k : Value → World → Prop) (w : World) : wpF Try.prog pl70 (bodyOf Try.f70) (bodyQ Try.prog Try.f70.results.toList k) (initF [v0, v1, v2]) w = S70 v0 v1 v2 k w := by kernel_rfl
theorem enter70 {v0 v1 v2 : Value} {k : Value → World → Prop} {w : World} (h : S70 v0 v1 v2 k w) : CallK Try.prog 70 [v0, v1, v2] k w :=
  call_of_wpF (pl := pl70) mixed Try.func70 body70 (by kernel_rfl) (of_decide_eq_true (by kernel_rfl)) (by kernel_rfl) (by kernel_rfl) (same70 v0 v1 v2 k w ▸ h)

/-! loop.example/g00758/spec.ShortWords -/
def pl105 : Plans := fun _ => ⟨false, [], .nil⟩
def S105 (v0 v1 : Value) (k : Value → World → Prop) (w : World) : Prop :=
 Do Try.prog (sBox 37 v0) (fun t1 w2 =>
 Rd Try.prog (WS.at w2) (sLoad 37 t1) fun t3 =>
 CallK Try.prog 81 [t3] (fun t4 w5 =>
 Rd Try.prog (WS.at w5) (sUn .not t4) fun t6 =>
 GuardK t6 false (fun k w' => k v1 w') (fun t7 w8 =>
 GuardK t6 false (fun k w' => CallK Try.prog 77 [t7, (.int .i64 0), (.int .i64 4)] k w') (fun t9 w10 =>
 GuardK t6 false (fun k w' => Rd Try.prog (WS.at w10) (sUn .not t9) fun v => k v w') (fun t11 w12 =>
 Rd Try.prog (WS.at w12) (sPick t6 (.bool true) t11) fun t13 =>
 CondK t13
  (k (.tuple #[(.slice none 0 0), (.bool false)]) w12)
  (Do Try.prog (sBuildSlice 48 1 [(0, (.slice none 0 0))]) (fun t14 w15 =>
  LoopF [22, 23, 24, 9, 27, 28, 29, 30, 31, 32, 11, 33, 34, 35, 36, 37, 38, 39, 40, 6, 12, 41, 42, 43, 44, 47, 48, 49, 50, 51, 52, 53, 54, 9, 45, 46, 12, 55, 29, 56, 7, 25, 26, 8] (fun Q16 f17 w18 =>
   Rd Try.prog (WS.at w18) (sBin .leq 3 false (f17 8) (f17 1)) fun t19 =>
   CondK t19
    (Rd Try.prog (WS.at w18) (sBuiltin .len #[48] 3 [false] [(f17 7)]) fun t20 =>
    LoopF [30, 31, 32, 11, 33, 34, 35, 36, 37, 38, 39, 40, 6, 12, 41, 42, 43, 44, 47, 48, 49, 50, 51, 52, 53, 54, 9, 45, 46, 12, 55, 29] (fun Q21 f22 w23 =>
     Rd Try.prog (WS.at w23) (sBin .lss 3 false (f22 29) (f22 28)) fun t24 =>
     CondK t24
      (Join (fun K25 =>
      Rd Try.prog (WS.at w23) (sIndexAddr 48 (f22 27) (f22 29)) fun t28 =>
      Rd Try.prog (WS.at w23) (sLoad 22 t28) fun t29 =>
      Join (fun K30 =>
      Rd Try.prog (WS.at w23) (sLoad 37 (f22 2)) fun t33 =>
      CallK Try.prog 102 [t33, (.int .i64 0), t29] (fun t34 w35 =>
      CondK t34
       (CallK Try.prog 116 [t29] (fun t36 w37 =>
       Do Try.prog (sBuildSlice 48 1 [(0, t36)]) (fun t38 w39 =>
       Do Try.prog (sBuiltin .append #[48, 48] 48 [false, false] [(f22 6), t38]) (fun t40 w41 =>
       K30 (F.upd (F.upd (F.upd (F.upd (F.upd (F.upd (F.upd (F.upd (F.upd (F.upd (F.upd (F.upd (F.upd f22 30 t24) 31 t28) 32 t29) 11 t29) 33 t33) 34 t29) 35 t34) 36 (f22 6)) 37 t29) 38 t36) 39 t38) 40 t40) 6 t40) w41) w39) w37) w35)
       (K30 (F.upd (F.upd (F.upd (F.upd (F.upd (F.upd (F.upd f22 30 t24) 31 t28) 32 t29) 11 t29) 33 t33) 34 t29) 35 t34) w35)) w23) (fun f31 w32 =>
      LoopF [41, 42, 43, 44, 47, 48, 49, 50, 51, 52, 53, 54, 9, 45, 46, 12] (fun Q42 f43 w44 =>
       Rd Try.prog (WS.at w44) (sFieldAddr 37 (f43 2) 1) fun t45 =>
       Rd Try.prog (WS.at w44) (sLoad 3 t45) fun t46 =>
       Rd Try.prog (WS.at w44) (sBin .lss 3 false (f43 12) t46) fun t47 =>
       CondK t47
        (CallK Try.prog 116 [(f43 11)] (fun t48 w49 =>
        Do Try.prog (sBuildSlice 22 1 [(0, (f43 12))]) (fun t50 w51 =>
        Do Try.prog (sBuiltin .append #[22, 22] 22 [false, false] [t48, t50]) (fun t52 w53 =>
        Do Try.prog (sBuildSlice 48 1 [(0, t52)]) (fun t54 w55 =>
        Do Try.prog (sBuiltin .append #[48, 48] 48 [false, false] [(f43 9), t54]) (fun t56 w57 =>
        Rd Try.prog (WS.at w57) (sBin .add 3 true (f43 12) (.int .i64 1)) fun t58 =>
        Q42 .normal (F.upd (F.upd (F.upd (F.upd (F.upd (F.upd (F.upd (F.upd (F.upd (F.upd (F.upd (F.upd (F.upd (F.upd (F.upd (F.upd f43 41 (f43 12)) 42 t45) 43 t46) 44 t47) 47 (f43 9)) 48 (f43 11)) 49 t48) 50 (f43 12)) 51 t50) 52 t52) 53 t54) 54 t56) 9 t56) 45 (f43 12)) 46 t58) 12 t58) w57) w55) w53) w51) w49) w44)
        (Q42 (.exit 4) (F.upd (F.upd (F.upd (F.upd f43 41 (f43 12)) 42 t45) 43 t46) 44 t47) w44))
       (blockQ 4 (blockQ 3 (seqQ K25 Q21)))
       (F.upd f31 12 (.int .i64 0)) w32)) (fun f26 w27 =>
      Rd Try.prog (WS.at w27) (sBin .add 3 true (f26 29) (.int .i64 1)) fun t61 =>
      Q21 .normal (F.upd (F.upd f26 55 t61) 29 t61) w27))
      (Q21 (.exit 2) (F.upd f22 30 t24) w23))
     (blockQ 2 (seqQ (fun f62 w63 =>
    Rd Try.prog (WS.at w63) (sBin .add 3 true (f62 8) (.int .i64 1)) fun t64 =>
    Q16 .normal (F.upd (F.upd (F.upd (F.upd (F.upd f62 56 (f62 9)) 7 (f62 9)) 25 (f62 8)) 26 t64) 8 t64) w63) (blockQ 1 (seqQ (fun f65 w66 =>
    Rd Try.prog (WS.at w66) (sBin .add 3 true (f65 8) (.int .i64 1)) fun t67 =>
    Q16 .normal (F.upd (F.upd (F.upd f65 25 (f65 8)) 26 t67) 8 t67) w66) Q16))))
     (F.upd (F.upd (F.upd (F.upd (F.upd (F.upd (F.upd f17 22 (f17 8)) 23 (f17 1)) 24 t19) 9 (.slice none 0 0)) 27 (f17 7)) 28 t20) 29 (.int .i64 0)) w18)
    (Q16 (.exit 0) (F.upd (F.upd (F.upd f17 22 (f17 8)) 23 (f17 1)) 24 t19) w18))
   (blockQ 0 (seqQ (fun f68 w69 =>
  k (.tuple #[(f68 6), (.bool true)]) w69) (bodyQ Try.prog [.tmp 4, .tmp 5] k)))
   (F.upd (F.upd (F.upd (F.upd (F.upd (F.upd (F.upd (F.upd (F.upd (F.upd (F.upd (F.upd (F.upd (F.upd (F.upd (initF [v0, v1]) 2 t1) 4 (.slice none 0 0)) 5 (.bool false)) 13 t3) 14 t4) 15 t6) 16 t6) 17 t7) 18 t9) 19 t11) 20 t13) 6 (.slice none 0 0)) 21 t14) 7 t14) 8 (.int .i64 0)) w15) w12)) w10) w8) w5) w2) w
theorem body105 : Try.f105.body = some (bodyOf Try.f105) := by kernel_rfl
theorem same105 (v0 v1 : Value) (k : Value → World → Prop) (w : World) : wpF Try.prog pl105 (bodyOf Try.f105) (bodyQ Try.prog Try.f105.results.toList k) (initF [v0, v1]) w = S105 v0 v1 k w := by kernel_rfl
theorem enter105 {v0 v1 : Value} {k : Value → World → Prop} {w : World} (h : S105 v0 v1 k w) : CallK Try.prog 105 [v0, v1] k w :=
  call_of_wpF (pl := pl105) mixed Try.func105 body105 (by kernel_rfl) (of_decide_eq_true (by kernel_rfl)) (by kernel_rfl) (by kernel_rfl) (same105 v0 v1 k w ▸ h)

/-! loop.example/g00758/impl.ShortWords -/
def pl106 : Plans := fun _ => ⟨false, [], .nil⟩
def S106 (v0 v1 : Value) (k : Value → World → Prop) (w : World) : Prop :=
 Do Try.prog (sBox 37 v0) (fun t1 w2 =>
 Rd Try.prog (WS.at w2) (sLoad 37 t1) fun t3 =>
 CallK Try.prog 84 [t3] (fun t4 w5 =>
 Rd Try.prog (WS.at w5) (sUn .not t4) fun t6 =>
 GuardK t6 false (fun k w' => k v1 w') (fun t7 w8 =>
 GuardK t6 false (fun k w' => CallK Try.prog 103 [t7, (.int .i64 0), (.int .i64 4)] k w') (fun t9 w10 =>
 GuardK t6 false (fun k w' => Rd Try.prog (WS.at w10) (sUn .not t9) fun v => k v w') (fun t11 w12 =>
 Rd Try.prog (WS.at w12) (sPick t6 (.bool true) t11) fun t13 =>
 CondK t13
  (k (.tuple #[(.slice none 0 0), (.bool false)]) w12)
  (Do Try.prog (sBuildSlice 48 0 []) (fun t14 w15 =>
  Rd Try.prog (WS.at w15) (sBin .add 3 true v1 (.int .i64 1)) fun t16 =>
  LoopF [22, 23, 7, 24, 25, 26, 27, 28, 29, 30, 31, 32, 9, 33, 34, 35, 36, 37, 38, 39, 40, 41, 42, 43, 44, 45, 46, 6, 47, 29, 48, 21] (fun Q17 f18 w19 =>
   Rd Try.prog (WS.at w19) (sBin .lss 3 false (f18 21) (f18 20)) fun t20 =>
   CondK t20
    (Rd Try.prog (WS.at w19) (sFieldAddr 37 (f18 2) 1) fun t21 =>
    Rd Try.prog (WS.at w19) (sLoad 3 t21) fun t22 =>
    CallK Try.prog 150 [t22, (f18 21)] (fun t23 w24 =>
    Rd Try.prog (WS.at w24) (sBuiltin .len #[48] 3 [false] [t23]) fun t25 =>
    LoopF [30, 31, 32, 9, 33, 34, 35, 36, 37, 38, 39, 40, 41, 42, 43, 44, 45, 46, 6, 47, 29] (fun Q26 f27 w28 =>
     Rd Try.prog (WS.at w28) (sBin .lss 3 false (f27 29) (f27 28)) fun t29 =>
     CondK t29
      (Join (fun K30 =>
      Rd Try.prog (WS.at w28) (sIndexAddr 48 (f27 27) (f27 29)) fun t33 =>
      Rd Try.prog (WS.at w28) (sLoad 22 t33) fun t34 =>
      Rd Try.prog (WS.at w28) (sLoad 37 (f27 2)) fun t35 =>
      CallK Try.prog 104 [t35, t34] (fun t36 w37 =>
      Rd Try.prog (WS.at w37) (sNilCheck t36) fun t38 =>
      Rd Try.prog (WS.at w37) (sFieldAddr 111 t38 1) fun t39 =>
      Rd Try.prog (WS.at w37) (sIndexAddr 109 t39 (.int .i64 0)) fun t40 =>
      Rd Try.prog (WS.at w37) (sIndexAddr 108 t40 (.int .i64 0)) fun t41 =>
      Rd Try.prog (WS.at w37) (sIndexAddr 107 t41 (f27 7)) fun t42 =>
      Rd Try.prog (WS.at w37) (sLoad 4 t42) fun t43 =>
      CondK t43
       (Do Try.prog (sBuildSlice 48 1 [(0, t34)]) (fun t44 w45 =>
       Do Try.prog (sBuiltin .append #[48, 48] 48 [false, false] [(f27 6), t44]) (fun t46 w47 =>
       K30 (F.upd (F.upd (F.upd (F.upd (F.upd (F.upd (F.upd (F.upd (F.upd (F.upd (F.upd (F.upd (F.upd (F.upd (F.upd (F.upd (F.upd (F.upd (F.upd f27 30 t29) 31 t33) 32 t34) 9 t34) 33 t35) 34 t34) 35 t36) 36 (f27 7)) 37 t38) 38 t39) 39 t40) 40 t41) 41 t42) 42 t43) 43 (f27 6)) 44 t34) 45 t44) 46 t46) 6 t46) w47) w45) w37)
       (K30 (F.upd (F.upd (F.upd (F.upd (F.upd (F.upd (F.upd (F.upd (F.upd (F.upd (F.upd (F.upd (F.upd (F.upd f27 30 t29) 31 t33) 32 t34) 9 t34) 33 t35) 34 t34) 35 t36) 36 (f27 7)) 37 t38) 38 t39) 39 t40) 40 t41) 41 t42) 42 t43) w37)) w28) (fun f31 w32 =>
      Rd Try.prog (WS.at w32) (sBin .add 3 true (f31 29) (.int .i64 1)) fun t48 =>
      Q26 .normal (F.upd (F.upd f31 47 t48) 29 t48) w32))
      (Q26 (.exit 2) (F.upd f27 30 t29) w28))
     (blockQ 2 (blockQ 1 (seqQ (fun f49 w50 =>
    Rd Try.prog (WS.at w50) (sBin .add 3 true (f49 21) (.int .i64 1)) fun t51 =>
    Q17 .normal (F.upd (F.upd f49 48 t51) 21 t51) w50) Q17)))
     (F.upd (F.upd (F.upd (F.upd (F.upd (F.upd (F.upd (F.upd (F.upd f18 22 t20) 23 (f18 21)) 7 (f18 21)) 24 t21) 25 t22) 26 (f18 21)) 27 t23) 28 t25) 29 (.int .i64 0)) w24) w19)
    (Q17 (.exit 0) (F.upd f18 22 t20) w19))
   (blockQ 0 (seqQ (fun f52 w53 =>
  k (.tuple #[(f52 6), (.bool true)]) w53) (bodyQ Try.prog [.tmp 4, .tmp 5] k)))
   (F.upd (F.upd (F.upd (F.upd (F.upd (F.upd (F.upd (F.upd (F.upd (F.upd (F.upd (F.upd (F.upd (F.upd (F.upd (F.upd (initF [v0, v1]) 2 t1) 4 (.slice none 0 0)) 5 (.bool false)) 10 t3) 11 t4) 12 t6) 13 t6) 14 t7) 15 t9) 16 t11) 17 t13) 18 t14) 6 t14) 19 v1) 20 t16) 21 (.int .i64 0)) w15) w12)) w10) w8) w5) w2) w
theorem body106 : Try.f106.body = some (bodyOf Try.f106) := by kernel_rfl
theorem same106 (v0 v1 : Value) (k : Value → World → Prop) (w : World) : wpF Try.prog pl106 (bodyOf Try.f106) (bodyQ Try.prog Try.f106.results.toList k) (initF [v0, v1]) w = S106 v0 v1 k w := by kernel_rfl
theorem enter106 {v0 v1 : Value} {k : Value → World → Prop} {w : World} (h : S106 v0 v1 k w) : CallK Try.prog 106 [v0, v1] k w :=
  call_of_wpF (pl := pl106) mixed Try.func106 body106 (by kernel_rfl) (of_decide_eq_true (by kernel_rfl)) (by kernel_rfl) (by kernel_rfl) (same106 v0 v1 k w ▸ h)

/-! loop.example/g00758/spec.l20Unlike -/
def pl107 : Plans := fun i => match i with
  | 3 => ⟨false, [18], .step 0 .any (.step 1 .any (.step 2 .any (.step 3 .any (.step 4 .any (.step 5 .any (.step 6 .any (.step 7 .any (.step 8 .any (.step 9 .any (.step 10 .any (.step 11 .any (.step 12 .any (.step 13 .held (.step 14 .any (.step 15 .any (.step 16 .any (.step 17 .held (.step 18 .last (.step 19 .any (.step 20 .any (.step 21 .any (.nil))))))))))))))))))))))⟩
  | 5 => ⟨false, [13], .step 0 .any (.step 1 .any (.step 2 .any (.step 3 .any (.step 4 .any (.step 5 .any (.step 6 .any (.step 7 .any (.step 8 .held (.step 9 .any (.step 10 .any (.step 11 .any (.step 12 .held (.step 13 .last (.step 14 .any (.step 15 .any (.nil))))))))))))))))⟩
  | _ => ⟨false, [], .nil⟩
def S107 (v0 v1 : Value) (k : Value → World → Prop) (w : World) : Prop :=
 LoopF [8, 9, 10, 11, 12, 13, 14, 15, 16, 17, 19, 20, 21, 22, 23, 24, 25, 26, 27, 28, 29, 30, 31, 32, 33, 34, 35, 36, 37, 38, 39, 18, 40, 41, 42, 43, 44, 4, 5, 46, 47, 48, 49, 50, 51, 52, 53, 54, 55, 56, 57, 58, 59, 60, 45, 61, 62, 63, 64, 65, 4, 5, 66, 67, 6, 68, 69, 7] (fun Q1 f2 w3 =>
  Rd Try.prog (WS.at w3) (sBuiltin .len #[48] 3 [false] [(f2 0)]) fun t4 =>
  Rd Try.prog (WS.at w3) (sBin .lss 3 false (f2 6) t4) fun t5 =>
  GuardK t5 false (fun k w' => k (f2 7) w') (fun t6 w7 =>
  GuardK t5 false (fun k w' => k (f2 1) w') (fun t8 w9 =>
  GuardK t5 false (fun k w' => Rd Try.prog (WS.at w9) (sBuiltin .len #[48] 3 [false] [t8]) fun v => k v w') (fun t10 w11 =>
  GuardK t5 false (fun k w' => Rd Try.prog (WS.at w11) (sBin .lss 3 false t6 t10) fun v => k v w') (fun t12 w13 =>
  Rd Try.prog (WS.at w13) (sPick t5 (.bool true) t12) fun t14 =>
  CondK t14
   (Rd Try.prog WS.any (sBuiltin .len #[48] 3 [false] [(f2 1)]) fun t15 =>
   Rd Try.prog WS.any (sBin .eql 3 false (f2 7) t15) fun t16 =>
   GuardK t16 false (fun k w' => k (f2 6) w') (fun t17 w18 =>
   GuardK t16 false (fun k w' => k (f2 0) w') (fun t19 w20 =>
   GuardK t16 false (fun k w' => Rd Try.prog WS.any (sBuiltin .len #[48] 3 [false] [t19]) fun v => k v w') (fun t21 w22 =>
   GuardK t16 false (fun k w' => Rd Try.prog WS.any (sBin .lss 3 false t17 t21) fun v => k v w') (fun t23 w24 =>
   GuardK t16 false (fun k w' => k t23 w') (fun t25 w26 =>
   GuardK t25 true (fun k w' => k (f2 0) w') (fun t27 w28 =>
   GuardK t25 true (fun k w' => k (f2 6) w') (fun t29 w30 =>
   GuardK t25 true (fun k w' => Rd Try.prog WS.any (sIndexAddr 48 t27 t29) fun v => k v w') (fun t31 w32 =>
   GuardK t25 true (fun k w' => Rd Try.prog (WS.at w13.drew) (sLoad 22 t31) fun v => k v w') (fun t33 w34 =>
   GuardK t25 true (fun k w' => k (f2 1) w') (fun t35 w36 =>
   GuardK t25 true (fun k w' => k (f2 7) w') (fun t37 w38 =>
   GuardK t25 true (fun k w' => Rd Try.prog WS.any (sIndexAddr 48 t35 t37) fun v => k v w') (fun t39 w40 =>
   GuardK t25 true (fun k w' => Rd Try.prog (WS.at w13.drew) (sLoad 22 t39) fun v => k v w') (fun t41 w42 =>
   GuardK t25 true (fun k w' => CallK Try.prog 151 [t33, t41] k w') (fun t43 w44 =>
   GuardK t16 false (fun k w' => Rd Try.prog WS.any (sPick t25 t43 (.bool false)) fun v => k v w') (fun t45 w46 =>
   Rd Try.prog WS.any (sPick t16 (.bool true) t45) fun t47 =>
   CondK t47
    (Rd Try.prog (WS.at w46) (sIndexAddr 48 (f2 0) (f2 6)) fun t48 =>
    Rd Try.prog (WS.at w46) (sLoad 22 t48) fun t49 =>
    CallK Try.prog 116 [t49] (fun t50 w51 =>
    Q1 .ret (F.upd (F.upd (F.upd (F.upd (F.upd (F.upd (F.upd (F.upd (F.upd (F.upd (F.upd (F.upd (F.upd (F.upd (F.upd (F.upd (F.upd (F.upd (F.upd (F.upd (F.upd (F.upd (F.upd (F.upd (F.upd (F.upd (F.upd (F.upd (F.upd (F.upd (F.upd (F.upd (F.upd (F.upd (F.upd (F.upd (F.upd (F.upd (F.upd f2 8 (f2 6)) 9 (f2 0)) 10 t4) 11 t5) 12 t5) 13 t6) 14 t8) 15 t10) 16 t12) 17 t14) 19 (f2 7)) 20 (f2 1)) 21 t15) 22 t16) 23 t16) 24 t17) 25 t19) 26 t21) 27 t23) 28 t25) 29 t27) 30 t29) 31 t31) 32 t33) 33 t35) 34 t37) 35 t39) 36 t41) 37 t43) 38 t45) 39 t47) 18 t47) 40 (f2 0)) 41 (f2 6)) 42 t48) 43 t49) 44 t50) 4 t50) 5 (.bool true)) w51) w46)
    (Rd Try.prog WS.any (sBuiltin .len #[48] 3 [false] [(f2 0)]) fun t52 =>
    Rd Try.prog WS.any (sBin .eql 3 false (f2 6) t52) fun t53 =>
    GuardK t53 false (fun k w' => k (f2 1) w') (fun t54 w55 =>
    GuardK t53 false (fun k w' => k (f2 7) w') (fun t56 w57 =>
    GuardK t53 false (fun k w' => Rd Try.prog WS.any (sIndexAddr 48 t54 t56) fun v => k v w') (fun t58 w59 =>
    GuardK t53 false (fun k w' => Rd Try.prog (WS.at w46.drew) (sLoad 22 t58) fun v => k v w') (fun t60 w61 =>
    GuardK t53 false (fun k w' => k (f2 0) w') (fun t62 w63 =>
    GuardK t53 false (fun k w' => k (f2 6) w') (fun t64 w65 =>
    GuardK t53 false (fun k w' => Rd Try.prog WS.any (sIndexAddr 48 t62 t64) fun v => k v w') (fun t66 w67 =>
    GuardK t53 false (fun k w' => Rd Try.prog (WS.at w46.drew) (sLoad 22 t66) fun v => k v w') (fun t68 w69 =>
    GuardK t53 false (fun k w' => CallK Try.prog 151 [t60, t68] k w') (fun t70 w71 =>
    Rd Try.prog WS.any (sPick t53 (.bool true) t70) fun t72 =>
    CondK t72
     (Rd Try.prog (WS.at w71) (sIndexAddr 48 (f2 1) (f2 7)) fun t73 =>
     Rd Try.prog (WS.at w71) (sLoad 22 t73) fun t74 =>
     CallK Try.prog 116 [t74] (fun t75 w76 =>
     Q1 .ret (F.upd (F.upd (F.upd (F.upd (F.upd (F.upd (F.upd (F.upd (F.upd (F.upd (F.upd (F.upd (F.upd (F.upd (F.upd (F.upd (F.upd (F.upd (F.upd (F.upd (F.upd (F.upd (F.upd (F.upd (F.upd (F.upd (F.upd (F.upd (F.upd (F.upd (F.upd (F.upd (F.upd (F.upd (F.upd (F.upd (F.upd (F.upd (F.upd (F.upd (F.upd (F.upd (F.upd (F.upd (F.upd (F.upd (F.upd (F.upd (F.upd (F.upd (F.upd (F.upd (F.upd (F.upd (F.upd f2 8 (f2 6)) 9 (f2 0)) 10 t4) 11 t5) 12 t5) 13 t6) 14 t8) 15 t10) 16 t12) 17 t14) 19 (f2 7)) 20 (f2 1)) 21 t15) 22 t16) 23 t16) 24 t17) 25 t19) 26 t21) 27 t23) 28 t25) 29 t27) 30 t29) 31 t31) 32 t33) 33 t35) 34 t37) 35 t39) 36 t41) 37 t43) 38 t45) 39 t47) 18 t47) 46 (f2 6)) 47 (f2 0)) 48 t52) 49 t53) 50 t53) 51 t54) 52 t56) 53 t58) 54 t60) 55 t62) 56 t64) 57 t66) 58 t68) 59 t70) 60 t72) 45 t72) 61 (f2 1)) 62 (f2 7)) 63 t73) 64 t74) 65 t75) 4 t75) 5 (.bool true)) w76) w71)
     (Rd Try.prog (WS.at w71) (sBin .add 3 true (f2 6) (.int .i64 1)) fun t77 =>
     Rd Try.prog (WS.at w71) (sBin .add 3 true (f2 7) (.int .i64 1)) fun t78 =>
     Q1 .normal (F.upd (F.upd (F.upd (F.upd (F.upd (F.upd (F.upd (F.upd (F.upd (F.upd (F.upd (F.upd (F.upd (F.upd (F.upd (F.upd (F.upd (F.upd (F.upd (F.upd (F.upd (F.upd (F.upd (F.upd (F.upd (F.upd (F.upd (F.upd (F.upd (F.upd (F.upd (F.upd (F.upd (F.upd (F.upd (F.upd (F.upd (F.upd (F.upd (F.upd (F.upd (F.upd (F.upd (F.upd (F.upd (F.upd (F.upd (F.upd (F.upd (F.upd (F.upd (F.upd (F.upd (F.upd f2 8 (f2 6)) 9 (f2 0)) 10 t4) 11 t5) 12 t5) 13 t6) 14 t8) 15 t10) 16 t12) 17 t14) 19 (f2 7)) 20 (f2 1)) 21 t15) 22 t16) 23 t16) 24 t17) 25 t19) 26 t21) 27 t23) 28 t25) 29 t27) 30 t29) 31 t31) 32 t33) 33 t35) 34 t37) 35 t39) 36 t41) 37 t43) 38 t45) 39 t47) 18 t47) 46 (f2 6)) 47 (f2 0)) 48 t52) 49 t53) 50 t53) 51 t54) 52 t56) 53 t58) 54 t60) 55 t62) 56 t64) 57 t66) 58 t68) 59 t70) 60 t72) 45 t72) 66 (f2 6)) 67 t77) 6 t77) 68 (f2 7)) 69 t78) 7 t78) w71)) w69) w67) w65) w63) w61) w59) w57) w55) w46.drew)) w44) w42) w40) w38) w36) w34) w32) w30) w28) w26) w24) w22) w20) w18) w13.drew)
   (Q1 (.exit 0) (F.upd (F.upd (F.upd (F.upd (F.upd (F.upd (F.upd (F.upd (F.upd (F.upd f2 8 (f2 6)) 9 (f2 0)) 10 t4) 11 t5) 12 t5) 13 t6) 14 t8) 15 t10) 16 t12) 17 t14) w13)) w11) w9) w7) w3)
  (blockQ 0 (seqQ (fun f79 w80 =>
 k (.tuple #[(.slice none 0 0), (.bool false)]) w80) (bodyQ Try.prog [.tmp 4, .tmp 5] k)))
  (F.upd (F.upd (F.upd (F.upd (initF [v0, v1]) 4 (.slice none 0 0)) 5 (.bool false)) 6 (.int .i64 0)) 7 (.int .i64 0)) w
theorem body107 : Try.f107.body = some (bodyOf Try.f107) := by kernel_rfl
theorem same107 (v0 v1 : Value) (k : Value → World → Prop) (w : World) : wpF Try.prog pl107 (bodyOf Try.f107) (bodyQ Try.prog Try.f107.results.toList k) (initF [v0, v1]) w = S107 v0 v1 k w := by kernel_rfl
theorem enter107 {v0 v1 : Value} {k : Value → World → Prop} {w : World} (h : S107 v0 v1 k w) : CallK Try.prog 107 [v0, v1] k w :=
  call_of_wpF (pl := pl107) mixed Try.func107 body107 (by kernel_rfl) (of_decide_eq_true (by kernel_rfl)) (by kernel_rfl) (by kernel_rfl) (same107 v0 v1 k w ▸ h)

/-! slices.EqualFunc[[][]int,[][]int,[]int,[]int] -/
def pl108 : Plans := fun _ => ⟨false, [], .nil⟩
def S108 (v0 v1 v2 : Value) (k : Value → World → Prop) (w : World) : Prop :=
 Rd Try.prog (WS.at w) (sBuiltin .len #[48] 3 [false] [v0]) fun t1 =>
 Rd Try.prog (WS.at w) (sBuiltin .len #[48] 3 [false] [v1]) fun t2 =>
 Rd Try.prog (WS.at w) (sBin .neq 3 false t1 t2) fun t3 =>
 CondK t3
  (k (.bool false) w)
  (Rd Try.prog (WS.at w) (sBuiltin .len #[48] 3 [false] [v0]) fun t4 =>
  LoopF [18, 19, 20, 21, 7, 8, 22, 23, 24, 25, 9, 26, 27, 28, 29, 30, 6, 31, 17] (fun Q5 f6 w7 =>
   Rd Try.prog (WS.at w7) (sBin .lss 3 false (f6 17) (f6 16)) fun t8 =>
   CondK t8
    (Rd Try.prog (WS.at w7) (sIndexAddr 48 (f6 15) (f6 17)) fun t9 =>
    Rd Try.prog (WS.at w7) (sLoad 22 t9) fun t10 =>
    Rd Try.prog (WS.at w7) (sIndexAddr 48 (f6 1) (f6 17)) fun t11 =>
    Rd Try.prog (WS.at w7) (sLoad 22 t11) fun t12 =>
    Do Try.prog (sCallV (f6 2) [t10, t12] 4) (fun t13 w14 =>
    Rd Try.prog (WS.at w14) (sUn .not t13) fun t15 =>
    CondK t15
     (Q5 .ret (F.upd (F.upd (F.upd (F.upd (F.upd (F.upd (F.upd (F.upd (F.upd (F.upd (F.upd (F.upd (F.upd (F.upd (F.upd (F.upd (F.upd f6 18 t8) 19 (f6 17)) 20 t9) 21 t10) 7 (f6 17)) 8 t10) 22 (f6 1)) 23 (f6 17)) 24 t11) 25 t12) 9 t12) 26 (f6 2)) 27 t10) 28 t12) 29 t13) 30 t15) 6 (.bool false)) w14)
     (Rd Try.prog (WS.at w14) (sBin .add 3 true (f6 17) (.int .i64 1)) fun t16 =>
     Q5 .normal (F.upd (F.upd (F.upd (F.upd (F.upd (F.upd (F.upd (F.upd (F.upd (F.upd (F.upd (F.upd (F.upd (F.upd (F.upd (F.upd (F.upd (F.upd f6 18 t8) 19 (f6 17)) 20 t9) 21 t10) 7 (f6 17)) 8 t10) 22 (f6 1)) 23 (f6 17)) 24 t11) 25 t12) 9 t12) 26 (f6 2)) 27 t10) 28 t12) 29 t13) 30 t15) 31 t16) 17 t16) w14)) w7)
    (Q5 (.exit 0) (F.upd f6 18 t8) w7))
   (blockQ 0 (seqQ (fun f17 w18 =>
  k (.bool true) w18) (bodyQ Try.prog [.tmp 6] k)))
   (F.upd (F.upd (F.upd (F.upd (F.upd (F.upd (F.upd (F.upd (F.upd (initF [v0, v1, v2]) 6 (.bool false)) 10 v0) 11 t1) 12 v1) 13 t2) 14 t3) 15 v0) 16 t4) 17 (.int .i64 0)) w)
theorem body108 : Try.f108.body = some (bodyOf Try.f108) := by kernel_rfl
theorem same108 (v0 v1 v2 : Value) (k : Value → World → Prop) (w : World) : wpF Try.prog pl108 (bodyOf Try.f108) (bodyQ Try.prog Try.f108.results.toList k) (initF [v0, v1, v2]) w = S108 v0 v1 v2 k w := by kernel_rfl
theorem enter108 {v0 v1 v2 : Value} {k : Value → World → Prop} {w : World} (h : S108 v0 v1 v2 k w) : CallK Try.prog 108 [v0, v1, v2] k w :=
  call_of_wpF (pl := pl108) mixed Try.func108 body108 (by kernel_rfl) (of_decide_eq_true (by kernel_rfl)) (by kernel_rfl) (by kernel_rfl) (same108 v0 v1 v2 k w ▸ h)

/-! loop.example/g00758/impl.SameUpTo$1 -/
def pl109 : Plans := fun _ => ⟨false, [], .nil⟩
def S109 (v0 v1 : Value) (k : Value → World → Prop) (w : World) : Prop :=
 CallK Try.prog 110 [v0, v1] (fun t1 w2 =>
 k t1 w2) w
theorem body109 : Try.f109.body = some (bodyOf Try.f109) := by kernel_rfl
theorem same109 (v0 v1 : Value) (k : Value → World → Prop) (w : World) : wpF Try.prog pl109 (bodyOf Try.f109) (bodyQ Try.prog Try.f109.results.toList k) (initF [v0, v1]) w = S109 v0 v1 k w := by kernel_rfl
theorem enter109 {v0 v1 : Value} {k : Value → World → Prop} {w : World} (h : S109 v0 v1 k w) : CallK Try.prog 109 [v0, v1] k w :=
  call_of_wpF (pl := pl109) mixed Try.func109 body109 (by kernel_rfl) (of_decide_eq_true (by kernel_rfl)) (by kernel_rfl) (by kernel_rfl) (same109 v0 v1 k w ▸ h)

/-! loop.example/g00758/spec.l17Apart -/
def pl121 : Plans := fun i => match i with
  | 17 => ⟨false, [11, 13, 14, 15], .step 0 .any (.step 1 .any (.step 2 .any (.step 3 .any (.step 4 .any (.step 5 .any (.step 6 .held (.step 7 .any (.step 8 .any (.step 9 .any (.step 10 .held (.step 11 .last (.step 12 .any (.step 13 .last (.step 14 .last (.step 15 .last (.step 16 .any (.nil)))))))))))))))))⟩
  | _ => ⟨false, [], .nil⟩
def S121 (v0 v1 : Value) (k : Value → World → Prop) (w : World) : Prop :=
 Rd Try.prog (WS.at w) (sBuiltin .len #[22] 3 [false] [v1]) fun t1 =>
 Rd Try.prog (WS.at w) (sBin .add 3 true t1 (.int .i64 1)) fun t2 =>
 Do Try.prog (sMakeSlice 22 t2 t2) (fun t3 w4 =>
 Rd Try.prog (WS.at w4) (sBuiltin .len #[22] 3 [false] [t3]) fun t5 =>
 LoopF [20, 21, 6, 22, 23, 24, 25, 26, 19] (fun Q6 f7 w8 =>
  Rd Try.prog (WS.at w8) (sBin .lss 3 false (f7 19) (f7 18)) fun t9 =>
  CondK t9
   (Rd Try.prog (WS.at w8) (sIndexAddr 22 (f7 5) (f7 19)) fun t10 =>
   Do Try.prog (sStore 3 t10 (f7 19)) (fun _ w11 =>
   Rd Try.prog (WS.at w11) (sBin .add 3 true (f7 19) (.int .i64 1)) fun t12 =>
   Q6 .normal (F.upd (F.upd (F.upd (F.upd (F.upd (F.upd (F.upd (F.upd (F.upd f7 20 t9) 21 (f7 19)) 6 (f7 19)) 22 (f7 5)) 23 (f7 19)) 24 (f7 19)) 25 t10) 26 t12) 19 t12) w11) w8)
   (Q6 (.exit 0) (F.upd f7 20 t9) w8))
  (blockQ 0 (seqQ (fun f13 w14 =>
 Rd Try.prog (WS.at w14) (sBuiltin .len #[22] 3 [false] [(f13 0)]) fun t15 =>
 LoopF [30, 31, 32, 33, 7, 8, 34, 35, 36, 9, 37, 38, 39, 40, 41, 42, 43, 10, 11, 44, 45, 46, 47, 12, 48, 49, 50, 51, 52, 12, 53, 54, 55, 56, 57, 58, 59, 60, 61, 62, 63, 64, 65, 66, 67, 68, 9, 69, 39, 70, 5, 71, 29] (fun Q16 f17 w18 =>
  Rd Try.prog (WS.at w18) (sBin .lss 3 false (f17 29) (f17 28)) fun t19 =>
  CondK t19
   (Rd Try.prog (WS.at w18) (sIndexAddr 22 (f17 27) (f17 29)) fun t20 =>
   Rd Try.prog (WS.at w18) (sLoad 3 t20) fun t21 =>
   Rd Try.prog (WS.at w18) (sBin .add 3 true (f17 29) (.int .i64 1)) fun t22 =>
   Do Try.prog (sBuildSlice 22 1 [(0, t22)]) (fun t23 w24 =>
   Rd Try.prog (WS.at w24) (sBuiltin .len #[22] 3 [false] [(f17 1)]) fun t25 =>
   LoopF [40, 41, 42, 43, 10, 11, 44, 45, 46, 47, 12, 48, 49, 50, 51, 52, 12, 53, 54, 55, 56, 57, 58, 59, 60, 61, 62, 63, 64, 65, 66, 67, 68, 9, 69, 39] (fun Q26 f27 w28 =>
    Rd Try.prog (WS.at w28) (sBin .lss 3 false (f27 39) (f27 38)) fun t29 =>
    CondK t29
     (Join (fun K30 =>
     Rd Try.prog (WS.at w28) (sIndexAddr 22 (f27 37) (f27 39)) fun t33 =>
     Rd Try.prog (WS.at w28) (sLoad 3 t33) fun t34 =>
     Rd Try.prog (WS.at w28) (sIndexAddr 22 (f27 5) (f27 39)) fun t35 =>
     Rd Try.prog (WS.at w28) (sLoad 3 t35) fun t36 =>
     Join (fun K37 =>
     Rd Try.prog (WS.at w28) (sBin .neq 3 false (f27 8) t34) fun t40 =>
     CondK t40
      (Rd Try.prog (WS.at w28) (sBin .add 3 true t36 (.int .i64 1)) fun t41 =>
      K37 (F.upd (F.upd (F.upd (F.upd (F.upd (F.upd (F.upd (F.upd (F.upd (F.upd (F.upd (F.upd (F.upd (F.upd (F.upd (F.upd (F.upd f27 40 t29) 41 (f27 39)) 42 t33) 43 t34) 10 (f27 39)) 11 t34) 44 (f27 5)) 45 (f27 39)) 46 t35) 47 t36) 12 t36) 48 (f27 8)) 49 t34) 50 t40) 51 t36) 52 t41) 12 t41) w28)
      (K37 (F.upd (F.upd (F.upd (F.upd (F.upd (F.upd (F.upd (F.upd (F.upd (F.upd (F.upd (F.upd (F.upd (F.upd f27 40 t29) 41 (f27 39)) 42 t33) 43 t34) 10 (f27 39)) 11 t34) 44 (f27 5)) 45 (f27 39)) 46 t35) 47 t36) 12 t36) 48 (f27 8)) 49 t34) 50 t40) w28)) (fun f38 w39 =>
     Rd Try.prog WS.any (sBin .add 3 true (f38 10) (.int .i64 1)) fun t42 =>
     Rd Try.prog WS.any (sIndexAddr 22 (f38 5) t42) fun t43 =>
     Rd Try.prog (WS.at w39.drew) (sLoad 3 t43) fun t44 =>
     Rd Try.prog WS.any (sIndexAddr 22 (f38 9) (f38 10)) fun t45 =>
     Rd Try.prog (WS.at w39.drew) (sLoad 3 t45) fun t46 =>
     CallK Try.prog 161 [t44, t46] (fun t47 w48 =>
     Rd Try.prog WS.any (sBin .add 3 true t47 (.int .i64 1)) fun t49 =>
     CallK Try.prog 161 [(f38 12), t49] (fun t50 w51 =>
     Do Try.prog (sBuildSlice 22 1 [(0, t50)]) (fun t52 w53 =>
     Do Try.prog (sBuiltin .append #[22, 22] 22 [false, false] [(f38 9), t52]) (fun t54 w55 =>
     K30 (F.upd (F.upd (F.upd (F.upd (F.upd (F.upd (F.upd (F.upd (F.upd (F.upd (F.upd (F.upd (F.upd (F.upd (F.upd (F.upd (F.upd f38 53 (f38 9)) 54 (f38 12)) 55 (f38 5)) 56 (f38 10)) 57 t42) 58 t43) 59 t44) 60 (f38 9)) 61 (f38 10)) 62 t45) 63 t46) 64 t47) 65 t49) 66 t50) 67 t52) 68 t54) 9 t54) w55) w53) w51) w48) w39.drew)) (fun f31 w32 =>
     Rd Try.prog (WS.at w32) (sBin .add 3 true (f31 39) (.int .i64 1)) fun t56 =>
     Q26 .normal (F.upd (F.upd f31 69 t56) 39 t56) w32))
     (Q26 (.exit 4) (F.upd f27 40 t29) w28))
    (blockQ 4 (seqQ (fun f57 w58 =>
   Rd Try.prog (WS.at w58) (sBin .add 3 true (f57 29) (.int .i64 1)) fun t59 =>
   Q16 .normal (F.upd (F.upd (F.upd (F.upd f57 70 (f57 9)) 5 (f57 9)) 71 t59) 29 t59) w58) (blockQ 3 (seqQ (fun f60 w61 =>
   Rd Try.prog (WS.at w61) (sBin .add 3 true (f60 29) (.int .i64 1)) fun t62 =>
   Q16 .normal (F.upd (F.upd f60 71 t62) 29 t62) w61) Q16))))
    (F.upd (F.upd (F.upd (F.upd (F.upd (F.upd (F.upd (F.upd (F.upd (F.upd (F.upd (F.upd (F.upd f17 30 t19) 31 (f17 29)) 32 t20) 33 t21) 7 (f17 29)) 8 t21) 34 (f17 29)) 35 t22) 36 t23) 9 t23) 37 (f17 1)) 38 t25) 39 (.int .i64 0)) w24) w18)
   (Q16 (.exit 2) (F.upd f17 30 t19) w18))
  (blockQ 2 (seqQ (fun f63 w64 =>
 Rd Try.prog (WS.at w64) (sBuiltin .len #[22] 3 [false] [(f63 1)]) fun t65 =>
 Rd Try.prog (WS.at w64) (sIndexAddr 22 (f63 5) t65) fun t66 =>
 Rd Try.prog (WS.at w64) (sLoad 3 t66) fun t67 =>
 k t67 w64) (bodyQ Try.prog [.tmp 4] k)))
  (F.upd (F.upd (F.upd f13 27 (f13 0)) 28 t15) 29 (.int .i64 0)) w14) (bodyQ Try.prog [.tmp 4] k)))
  (F.upd (F.upd (F.upd (F.upd (F.upd (F.upd (F.upd (F.upd (F.upd (initF [v0, v1]) 4 (.int .i64 0)) 13 v1) 14 t1) 15 t2) 16 t3) 5 t3) 17 t3) 18 t5) 19 (.int .i64 0)) w4) w
theorem body121 : Try.f121.body = some (bodyOf Try.f121) := by kernel_rfl
theorem same121 (v0 v1 : Value) (k : Value → World → Prop) (w : World) : wpF Try.prog pl121 (bodyOf Try.f121) (bodyQ Try.prog Try.f121.results.toList k) (initF [v0, v1]) w = S121 v0 v1 k w := by kernel_rfl
theorem enter121 {v0 v1 : Value} {k : Value → World → Prop} {w : World} (h : S121 v0 v1 k w) : CallK Try.prog 121 [v0, v1] k w :=
  call_of_wpF (pl := pl121) mixed Try.func121 body121 (by kernel_rfl) (of_decide_eq_true (by kernel_rfl)) (by kernel_rfl) (by kernel_rfl) (same121 v0 v1 k w ▸ h)

/-! loop.example/g00758/impl.apart -/
def pl122 : Plans := fun _ => ⟨false, [], .nil⟩
def S122 (v0 v1 : Value) (k : Value → World → Prop) (w : World) : Prop :=
 Do Try.prog (sBuildSlice 22 0 []) (fun t1 w2 =>
 Rd Try.prog (WS.at w2) (sBuiltin .len #[22] 3 [false] [v1]) fun t3 =>
 Rd Try.prog (WS.at w2) (sBin .add 3 true t3 (.int .i64 1)) fun t4 =>
 LoopF [18, 19, 6, 20, 21, 22, 23, 5, 24, 17] (fun Q5 f6 w7 =>
  Rd Try.prog (WS.at w7) (sBin .lss 3 false (f6 17) (f6 16)) fun t8 =>
  CondK t8
   (Do Try.prog (sBuildSlice 22 1 [(0, (f6 17))]) (fun t9 w10 =>
   Do Try.prog (sBuiltin .append #[22, 22] 22 [false, false] [(f6 5), t9]) (fun t11 w12 =>
   Rd Try.prog (WS.at w12) (sBin .add 3 true (f6 17) (.int .i64 1)) fun t13 =>
   Q5 .normal (F.upd (F.upd (F.upd (F.upd (F.upd (F.upd (F.upd (F.upd (F.upd (F.upd f6 18 t8) 19 (f6 17)) 6 (f6 17)) 20 (f6 5)) 21 (f6 17)) 22 t9) 23 t11) 5 t11) 24 t13) 17 t13) w12) w10) w7)
   (Q5 (.exit 0) (F.upd f6 18 t8) w7))
  (blockQ 0 (seqQ (fun f14 w15 =>
 Rd Try.prog (WS.at w15) (sBuiltin .len #[22] 3 [false] [(f14 0)]) fun t16 =>
 LoopF [28, 29, 30, 31, 7, 8, 32, 33, 34, 9, 35, 36, 37, 38, 39, 40, 41, 42, 43, 44, 45, 10, 11, 46, 12, 47, 48, 49, 50, 51, 12, 52, 53, 54, 55, 56, 9, 57, 58, 59, 60, 61, 62, 63, 64, 65, 66, 67, 68, 69, 70, 41, 71, 27] (fun Q17 f18 w19 =>
  Rd Try.prog (WS.at w19) (sBin .lss 3 false (f18 27) (f18 26)) fun t20 =>
  CondK t20
   (Rd Try.prog (WS.at w19) (sIndexAddr 22 (f18 25) (f18 27)) fun t21 =>
   Rd Try.prog (WS.at w19) (sLoad 3 t21) fun t22 =>
   Rd Try.prog (WS.at w19) (sIndexAddr 22 (f18 5) (.int .i64 0)) fun t23 =>
   Rd Try.prog (WS.at w19) (sLoad 3 t23) fun t24 =>
   Rd Try.prog (WS.at w19) (sBin .add 3 true (f18 27) (.int .i64 1)) fun t25 =>
   Rd Try.prog (WS.at w19) (sIndexAddr 22 (f18 5) (.int .i64 0)) fun t26 =>
   Do Try.prog (sStore 3 t26 t25) (fun _ w27 =>
   Rd Try.prog (WS.at w27) (sBuiltin .len #[22] 3 [false] [(f18 1)]) fun t28 =>
   LoopF [42, 43, 44, 45, 10, 11, 46, 12, 47, 48, 49, 50, 51, 12, 52, 53, 54, 55, 56, 9, 57, 58, 59, 60, 61, 62, 63, 64, 65, 66, 67, 68, 69, 70, 41] (fun Q29 f30 w31 =>
    Rd Try.prog (WS.at w31) (sBin .lss 3 false (f30 41) (f30 40)) fun t32 =>
    CondK t32
     (Join (fun K33 =>
     Rd Try.prog (WS.at w31) (sIndexAddr 22 (f30 39) (f30 41)) fun t36 =>
     Rd Try.prog (WS.at w31) (sLoad 3 t36) fun t37 =>
     Join (fun K38 =>
     Rd Try.prog (WS.at w31) (sBin .neq 3 false (f30 8) t37) fun t41 =>
     CondK t41
      (Rd Try.prog (WS.at w31) (sBin .add 3 true (f30 9) (.int .i64 1)) fun t42 =>
      K38 (F.upd (F.upd (F.upd (F.upd (F.upd (F.upd (F.upd (F.upd (F.upd (F.upd (F.upd (F.upd (F.upd (F.upd f30 42 t32) 43 (f30 41)) 44 t36) 45 t37) 10 (f30 41)) 11 t37) 46 (f30 9)) 12 (f30 9)) 47 (f30 8)) 48 t37) 49 t41) 50 (f30 9)) 51 t42) 12 t42) w31)
      (K38 (F.upd (F.upd (F.upd (F.upd (F.upd (F.upd (F.upd (F.upd (F.upd (F.upd (F.upd f30 42 t32) 43 (f30 41)) 44 t36) 45 t37) 10 (f30 41)) 11 t37) 46 (f30 9)) 12 (f30 9)) 47 (f30 8)) 48 t37) 49 t41) w31)) (fun f39 w40 =>
     Rd Try.prog (WS.at w40) (sBin .add 3 true (f39 10) (.int .i64 1)) fun t43 =>
     Rd Try.prog (WS.at w40) (sIndexAddr 22 (f39 5) t43) fun t44 =>
     Rd Try.prog (WS.at w40) (sLoad 3 t44) fun t45 =>
     Rd Try.prog (WS.at w40) (sBin .add 3 true (f39 10) (.int .i64 1)) fun t46 =>
     Rd Try.prog (WS.at w40) (sIndexAddr 22 (f39 5) (f39 10)) fun t47 =>
     Rd Try.prog (WS.at w40) (sLoad 3 t47) fun t48 =>
     Rd Try.prog (WS.at w40) (sBin .add 3 true t48 (.int .i64 1)) fun t49 =>
     Rd Try.prog (WS.at w40) (sBin .add 3 true t45 (.int .i64 1)) fun t50 =>
     Rd Try.prog (WS.at w40) (sBuiltin .min #[3, 3, 3] 3 [false, false, false] [(f39 12), t49, t50]) fun t51 =>
     Rd Try.prog (WS.at w40) (sIndexAddr 22 (f39 5) t46) fun t52 =>
     Do Try.prog (sStore 3 t52 t51) (fun _ w53 =>
     K33 (F.upd (F.upd (F.upd (F.upd (F.upd (F.upd (F.upd (F.upd (F.upd (F.upd (F.upd (F.upd (F.upd (F.upd (F.upd (F.upd (F.upd (F.upd (F.upd f39 52 (f39 5)) 53 (f39 10)) 54 t43) 55 t44) 56 t45) 9 t45) 57 (f39 5)) 58 (f39 10)) 59 t46) 60 (f39 12)) 61 (f39 5)) 62 (f39 10)) 63 t47) 64 t48) 65 t49) 66 t45) 67 t50) 68 t51) 69 t52) w53) w40)) (fun f34 w35 =>
     Rd Try.prog (WS.at w35) (sBin .add 3 true (f34 41) (.int .i64 1)) fun t54 =>
     Q29 .normal (F.upd (F.upd f34 70 t54) 41 t54) w35))
     (Q29 (.exit 4) (F.upd f30 42 t32) w31))
    (blockQ 4 (blockQ 3 (seqQ (fun f55 w56 =>
   Rd Try.prog (WS.at w56) (sBin .add 3 true (f55 27) (.int .i64 1)) fun t57 =>
   Q17 .normal (F.upd (F.upd f55 71 t57) 27 t57) w56) Q17)))
    (F.upd (F.upd (F.upd (F.upd (F.upd (F.upd (F.upd (F.upd (F.upd (F.upd (F.upd (F.upd (F.upd (F.upd (F.upd (F.upd (F.upd f18 28 t20) 29 (f18 27)) 30 t21) 31 t22) 7 (f18 27)) 8 t22) 32 (f18 5)) 33 t23) 34 t24) 9 t24) 35 (f18 5)) 36 (f18 27)) 37 t25) 38 t26) 39 (f18 1)) 40 t28) 41 (.int .i64 0)) w27) w19)
   (Q17 (.exit 2) (F.upd f18 28 t20) w19))
  (blockQ 2 (seqQ (fun f58 w59 =>
 Rd Try.prog (WS.at w59) (sBuiltin .len #[22] 3 [false] [(f58 1)]) fun t60 =>
 Rd Try.prog (WS.at w59) (sIndexAddr 22 (f58 5) t60) fun t61 =>
 Rd Try.prog (WS.at w59) (sLoad 3 t61) fun t62 =>
 k t62 w59) (bodyQ Try.prog [.tmp 4] k)))
  (F.upd (F.upd (F.upd f14 25 (f14 0)) 26 t16) 27 (.int .i64 0)) w15) (bodyQ Try.prog [.tmp 4] k)))
  (F.upd (F.upd (F.upd (F.upd (F.upd (F.upd (F.upd (initF [v0, v1]) 4 (.int .i64 0)) 13 t1) 5 t1) 14 v1) 15 t3) 16 t4) 17 (.int .i64 0)) w2) w
theorem body122 : Try.f122.body = some (bodyOf Try.f122) := by kernel_rfl
theorem same122 (v0 v1 : Value) (k : Value → World → Prop) (w : World) : wpF Try.prog pl122 (bodyOf Try.f122) (bodyQ Try.prog Try.f122.results.toList k) (initF [v0, v1]) w = S122 v0 v1 k w := by kernel_rfl
theorem enter122 {v0 v1 : Value} {k : Value → World → Prop} {w : World} (h : S122 v0 v1 k w) : CallK Try.prog 122 [v0, v1] k w :=
  call_of_wpF (pl := pl122) mixed Try.func122 body122 (by kernel_rfl) (of_decide_eq_true (by kernel_rfl)) (by kernel_rfl) (by kernel_rfl) (same122 v0 v1 k w ▸ h)

/-! loop.example/g00758/impl.compareWords -/
def pl123 : Plans := fun _ => ⟨false, [], .nil⟩
def S123 (v0 v1 : Value) (k : Value → World → Prop) (w : World) : Prop :=
 Rd Try.prog (WS.at w) (sBuiltin .len #[22] 3 [false] [v0]) fun t1 =>
 Rd Try.prog (WS.at w) (sBuiltin .len #[22] 3 [false] [v1]) fun t2 =>
 CallK Try.prog 163 [t1, t2] (fun t3 w4 =>
 CallK Try.prog 164 [v0, v1] (fun t5 w6 =>
 Do Try.prog (sBuildSlice 22 2 [(0, t3), (1, t5)]) (fun t7 w8 =>
 CallK Try.prog 162 [t7] (fun t9 w10 =>
 k t9 w10) w8) w6) w4) w
theorem body123 : Try.f123.body = some (bodyOf Try.f123) := by kernel_rfl
theorem same123 (v0 v1 : Value) (k : Value → World → Prop) (w : World) : wpF Try.prog pl123 (bodyOf Try.f123) (bodyQ Try.prog Try.f123.results.toList k) (initF [v0, v1]) w = S123 v0 v1 k w := by kernel_rfl
theorem enter123 {v0 v1 : Value} {k : Value → World → Prop} {w : World} (h : S123 v0 v1 k w) : CallK Try.prog 123 [v0, v1] k w :=
  call_of_wpF (pl := pl123) mixed Try.func123 body123 (by kernel_rfl) (of_decide_eq_true (by kernel_rfl)) (by kernel_rfl) (by kernel_rfl) (same123 v0 v1 k w ▸ h)

/-! loop.example/g00758/impl.wordsOf -/
def pl150 : Plans := fun _ => ⟨false, [], .nil⟩
def S150 (v0 v1 : Value) (k : Value → World → Prop) (w : World) : Prop :=
 Do Try.prog (sBuildSlice 22 0 []) (fun t1 w2 =>
 Do Try.prog (sBuildSlice 48 1 [(0, t1)]) (fun t3 w4 =>
 LoopF [14, 15, 6, 16, 17, 18, 19, 20, 21, 8, 22, 23, 24, 25, 9, 26, 27, 28, 29, 30, 31, 32, 33, 34, 6, 35, 23, 36, 18, 37, 5, 38, 13] (fun Q5 f6 w7 =>
  Rd Try.prog (WS.at w7) (sBin .lss 3 false (f6 13) (f6 12)) fun t8 =>
  CondK t8
   (Do Try.prog (sBuildSlice 48 0 []) (fun t9 w10 =>
   Rd Try.prog (WS.at w10) (sBuiltin .len #[48] 3 [false] [(f6 5)]) fun t11 =>
   LoopF [19, 20, 21, 8, 22, 23, 24, 25, 9, 26, 27, 28, 29, 30, 31, 32, 33, 34, 6, 35, 23, 36, 18] (fun Q12 f13 w14 =>
    Rd Try.prog (WS.at w14) (sBin .lss 3 false (f13 18) (f13 17)) fun t15 =>
    CondK t15
     (Rd Try.prog (WS.at w14) (sIndexAddr 48 (f13 16) (f13 18)) fun t16 =>
     Rd Try.prog (WS.at w14) (sLoad 22 t16) fun t17 =>
     LoopF [24, 25, 9, 26, 27, 28, 29, 30, 31, 32, 33, 34, 6, 35, 23] (fun Q18 f19 w20 =>
      Rd Try.prog (WS.at w20) (sBin .lss 3 false (f19 23) (f19 22)) fun t21 =>
      CondK t21
       (Do Try.prog (sBuildSlice 22 0 []) (fun t22 w23 =>
       Do Try.prog (sBuiltin .append #[22, 22] 22 [false, false] [t22, (f19 8)]) (fun t24 w25 =>
       Do Try.prog (sBuildSlice 22 1 [(0, (f19 23))]) (fun t26 w27 =>
       Do Try.prog (sBuiltin .append #[22, 22] 22 [false, false] [t24, t26]) (fun t28 w29 =>
       Do Try.prog (sBuildSlice 48 1 [(0, t28)]) (fun t30 w31 =>
       Do Try.prog (sBuiltin .append #[48, 48] 48 [false, false] [(f19 6), t30]) (fun t32 w33 =>
       Rd Try.prog (WS.at w33) (sBin .add 3 true (f19 23) (.int .i64 1)) fun t34 =>
       Q18 .normal (F.upd (F.upd (F.upd (F.upd (F.upd (F.upd (F.upd (F.upd (F.upd (F.upd (F.upd (F.upd (F.upd (F.upd (F.upd f19 24 t21) 25 (f19 23)) 9 (f19 23)) 26 (f19 6)) 27 t22) 28 (f19 8)) 29 t24) 30 (f19 23)) 31 t26) 32 t28) 33 t30) 34 t32) 6 t32) 35 t34) 23 t34) w33) w31) w29) w27) w25) w23) w20)
       (Q18 (.exit 4) (F.upd f19 24 t21) w20))
      (blockQ 4 (blockQ 3 (seqQ (fun f35 w36 =>
     Rd Try.prog (WS.at w36) (sBin .add 3 true (f35 18) (.int .i64 1)) fun t37 =>
     Q12 .normal (F.upd (F.upd f35 36 t37) 18 t37) w36) Q12)))
      (F.upd (F.upd (F.upd (F.upd (F.upd (F.upd f13 19 t15) 20 t16) 21 t17) 8 t17) 22 (f13 0)) 23 (.int .i64 0)) w14)
     (Q12 (.exit 2) (F.upd f13 19 t15) w14))
    (blockQ 2 (seqQ (fun f38 w39 =>
   Rd Try.prog (WS.at w39) (sBin .add 3 true (f38 13) (.int .i64 1)) fun t40 =>
   Q5 .normal (F.upd (F.upd (F.upd (F.upd f38 37 (f38 6)) 5 (f38 6)) 38 t40) 13 t40) w39) (blockQ 1 (seqQ (fun f41 w42 =>
   Rd Try.prog (WS.at w42) (sBin .add 3 true (f41 13) (.int .i64 1)) fun t43 =>
   Q5 .normal (F.upd (F.upd f41 38 t43) 13 t43) w42) Q5))))
    (F.upd (F.upd (F.upd (F.upd (F.upd (F.upd f6 14 t8) 15 t9) 6 t9) 16 (f6 5)) 17 t11) 18 (.int .i64 0)) w10) w7)
   (Q5 (.exit 0) (F.upd f6 14 t8) w7))
  (blockQ 0 (seqQ (fun f44 w45 =>
 k (f44 5) w45) (bodyQ Try.prog [.tmp 4] k)))
  (F.upd (F.upd (F.upd (F.upd (F.upd (F.upd (initF [v0, v1]) 4 (.slice none 0 0)) 10 t1) 11 t3) 5 t3) 12 v1) 13 (.int .i64 0)) w4) w2) w
theorem body150 : Try.f150.body = some (bodyOf Try.f150) := by kernel_rfl
theorem same150 (v0 v1 : Value) (k : Value → World → Prop) (w : World) : wpF Try.prog pl150 (bodyOf Try.f150) (bodyQ Try.prog Try.f150.results.toList k) (initF [v0, v1]) w = S150 v0 v1 k w := by kernel_rfl
theorem enter150 {v0 v1 : Value} {k : Value → World → Prop} {w : World} (h : S150 v0 v1 k w) : CallK Try.prog 150 [v0, v1] k w :=
  call_of_wpF (pl := pl150) mixed Try.func150 body150 (by kernel_rfl) (of_decide_eq_true (by kernel_rfl)) (by kernel_rfl) (by kernel_rfl) (same150 v0 v1 k w ▸ h)

/-! loop.example/g00758/spec.l20Less -/
def pl151 : Plans := fun _ => ⟨false, [], .nil⟩
def S151 (v0 v1 : Value) (k : Value → World → Prop) (w : World) : Prop :=
 Rd Try.prog (WS.at w) (sBuiltin .len #[22] 3 [false] [v0]) fun t1 =>
 Rd Try.prog (WS.at w) (sBuiltin .len #[22] 3 [false] [v1]) fun t2 =>
 Rd Try.prog (WS.at w) (sBin .neq 3 false t1 t2) fun t3 =>
 CondK t3
  (Rd Try.prog (WS.at w) (sBuiltin .len #[22] 3 [false] [v0]) fun t4 =>
  Rd Try.prog (WS.at w) (sBuiltin .len #[22] 3 [false] [v1]) fun t5 =>
  Rd Try.prog (WS.at w) (sBin .lss 3 false t4 t5) fun t6 =>
  k t6 w)
  (CallK Try.prog 183 [v0, v1] (fun t7 w8 =>
  k t7 w8) w)
theorem body151 : Try.f151.body = some (bodyOf Try.f151) := by kernel_rfl
theorem same151 (v0 v1 : Value) (k : Value → World → Prop) (w : World) : wpF Try.prog pl151 (bodyOf Try.f151) (bodyQ Try.prog Try.f151.results.toList k) (initF [v0, v1]) w = S151 v0 v1 k w := by kernel_rfl
theorem enter151 {v0 v1 : Value} {k : Value → World → Prop} {w : World} (h : S151 v0 v1 k w) : CallK Try.prog 151 [v0, v1] k w :=
  call_of_wpF (pl := pl151) mixed Try.func151 body151 (by kernel_rfl) (of_decide_eq_true (by kernel_rfl)) (by kernel_rfl) (by kernel_rfl) (same151 v0 v1 k w ▸ h)

/-! loop.example/g00758/spec.l1Least -/
def pl161 : Plans := fun _ => ⟨false, [], .nil⟩
def S161 (v0 v1 : Value) (k : Value → World → Prop) (w : World) : Prop :=
 Rd Try.prog (WS.at w) (sBin .lss 3 false v0 v1) fun t1 =>
 CondK t1
  (k v0 w)
  (k v1 w)
theorem body161 : Try.f161.body = some (bodyOf Try.f161) := by kernel_rfl
theorem same161 (v0 v1 : Value) (k : Value → World → Prop) (w : World) : wpF Try.prog pl161 (bodyOf Try.f161) (bodyQ Try.prog Try.f161.results.toList k) (initF [v0, v1]) w = S161 v0 v1 k w := by kernel_rfl
theorem enter161 {v0 v1 : Value} {k : Value → World → Prop} {w : World} (h : S161 v0 v1 k w) : CallK Try.prog 161 [v0, v1] k w :=
  call_of_wpF (pl := pl161) mixed Try.func161 body161 (by kernel_rfl) (of_decide_eq_true (by kernel_rfl)) (by kernel_rfl) (by kernel_rfl) (same161 v0 v1 k w ▸ h)

/-! cmp.Or[int] -/
def pl162 : Plans := fun _ => ⟨false, [], .nil⟩
def S162 (v0 : Value) (k : Value → World → Prop) (w : World) : Prop :=
 Rd Try.prog (WS.at w) (sBuiltin .len #[22] 3 [false] [v0]) fun t1 =>
 LoopF [9, 10, 11, 5, 12, 13, 14, 15, 2, 16, 8] (fun Q2 f3 w4 =>
  Rd Try.prog (WS.at w4) (sBin .lss 3 false (f3 8) (f3 7)) fun t5 =>
  CondK t5
   (Rd Try.prog (WS.at w4) (sIndexAddr 22 (f3 6) (f3 8)) fun t6 =>
   Rd Try.prog (WS.at w4) (sLoad 3 t6) fun t7 =>
   Rd Try.prog (WS.at w4) (sBin .neq 3 false t7 (f3 3)) fun t8 =>
   CondK t8
    (Q2 .ret (F.upd (F.upd (F.upd (F.upd (F.upd (F.upd (F.upd (F.upd (F.upd f3 9 t5) 10 t6) 11 t7) 5 t7) 12 t7) 13 (f3 3)) 14 t8) 15 t7) 2 t7) w4)
    (Rd Try.prog (WS.at w4) (sBin .add 3 true (f3 8) (.int .i64 1)) fun t9 =>
    Q2 .normal (F.upd (F.upd (F.upd (F.upd (F.upd (F.upd (F.upd (F.upd (F.upd f3 9 t5) 10 t6) 11 t7) 5 t7) 12 t7) 13 (f3 3)) 14 t8) 16 t9) 8 t9) w4))
   (Q2 (.exit 0) (F.upd f3 9 t5) w4))
  (blockQ 0 (seqQ (fun f10 w11 =>
 k (f10 3) w11) (bodyQ Try.prog [.tmp 2] k)))
  (F.upd (F.upd (F.upd (F.upd (F.upd (initF [v0]) 2 (.int .i64 0)) 3 (.int .i64 0)) 6 v0) 7 t1) 8 (.int .i64 0)) w
theorem body162 : Try.f162.body = some (bodyOf Try.f162) := by kernel_rfl
theorem same162 (v0 : Value) (k : Value → World → Prop) (w : World) : wpF Try.prog pl162 (bodyOf Try.f162) (bodyQ Try.prog Try.f162.results.toList k) (initF [v0]) w = S162 v0 k w := by kernel_rfl
theorem enter162 {v0 : Value} {k : Value → World → Prop} {w : World} (h : S162 v0 k w) : CallK Try.prog 162 [v0] k w :=
  call_of_wpF (pl := pl162) mixed Try.func162 body162 (by kernel_rfl) (of_decide_eq_true (by kernel_rfl)) (by kernel_rfl) (by kernel_rfl) (same162 v0 k w ▸ h)

/-! cmp.Compare[int] -/
def pl163 : Plans := fun _ => ⟨false, [], .nil⟩
def S163 (v0 v1 : Value) (k : Value → World → Prop) (w : World) : Prop :=
 CallK Try.prog 187 [v0] (fun t1 w2 =>
 CallK Try.prog 187 [v1] (fun t3 w4 =>
 CondK t1
  (CondK t3
   (k (.int .i64 0) w4)
   (k (.int .i64 (-1)) w4))
  (CondK t3
   (k (.int .i64 1) w4)
   (Rd Try.prog (WS.at w4) (sBin .lss 3 false v0 v1) fun t5 =>
   CondK t5
    (k (.int .i64 (-1)) w4)
    (Rd Try.prog (WS.at w4) (sBin .gtr 3 false v0 v1) fun t6 =>
    CondK t6
     (k (.int .i64 1) w4)
     (k (.int .i64 0) w4))))) w2) w
theorem body163 : Try.f163.body = some (bodyOf Try.f163) := by kernel_rfl
theorem same163 (v0 v1 : Value) (k : Value → World → Prop) (w : World) : wpF Try.prog pl163 (bodyOf Try.f163) (bodyQ Try.prog Try.f163.results.toList k) (initF [v0, v1]) w = S163 v0 v1 k w := by kernel_rfl
theorem enter163 {v0 v1 : Value} {k : Value → World → Prop} {w : World} (h : S163 v0 v1 k w) : CallK Try.prog 163 [v0, v1] k w :=
  call_of_wpF (pl := pl163) mixed Try.func163 body163 (by kernel_rfl) (of_decide_eq_true (by kernel_rfl)) (by kernel_rfl) (by kernel_rfl) (same163 v0 v1 k w ▸ h)

/-! slices.Compare[[]int,int] -/
def pl164 : Plans := fun _ => ⟨false, [], .nil⟩
def S164 (v0 v1 : Value) (k : Value → World → Prop) (w : World) : Prop :=
 Rd Try.prog (WS.at w) (sBuiltin .len #[22] 3 [false] [v0]) fun t1 =>
 LoopF [12, 13, 14, 15, 5, 6, 16, 17, 18, 19, 4, 20, 21, 22, 23, 7, 24, 25, 26, 8, 27, 28, 29, 4, 30, 11] (fun Q2 f3 w4 =>
  Rd Try.prog (WS.at w4) (sBin .lss 3 false (f3 11) (f3 10)) fun t5 =>
  CondK t5
   (Rd Try.prog (WS.at w4) (sIndexAddr 22 (f3 9) (f3 11)) fun t6 =>
   Rd Try.prog (WS.at w4) (sLoad 3 t6) fun t7 =>
   Rd Try.prog (WS.at w4) (sBuiltin .len #[22] 3 [false] [(f3 1)]) fun t8 =>
   Rd Try.prog (WS.at w4) (sBin .geq 3 false (f3 11) t8) fun t9 =>
   CondK t9
    (Q2 .ret (F.upd (F.upd (F.upd (F.upd (F.upd (F.upd (F.upd (F.upd (F.upd (F.upd (F.upd f3 12 t5) 13 (f3 11)) 14 t6) 15 t7) 5 (f3 11)) 6 t7) 16 (f3 11)) 17 (f3 1)) 18 t8) 19 t9) 4 (.int .i64 1)) w4)
    (Rd Try.prog (WS.at w4) (sIndexAddr 22 (f3 1) (f3 11)) fun t10 =>
    Rd Try.prog (WS.at w4) (sLoad 3 t10) fun t11 =>
    CallK Try.prog 163 [t7, t11] (fun t12 w13 =>
    Rd Try.prog (WS.at w13) (sBin .neq 3 true t12 (.int .i64 0)) fun t14 =>
    CondK t14
     (Q2 .ret (F.upd (F.upd (F.upd (F.upd (F.upd (F.upd (F.upd (F.upd (F.upd (F.upd (F.upd (F.upd (F.upd (F.upd (F.upd (F.upd (F.upd (F.upd (F.upd (F.upd (F.upd (F.upd (F.upd f3 12 t5) 13 (f3 11)) 14 t6) 15 t7) 5 (f3 11)) 6 t7) 16 (f3 11)) 17 (f3 1)) 18 t8) 19 t9) 20 (f3 1)) 21 (f3 11)) 22 t10) 23 t11) 7 t11) 24 t7) 25 t11) 26 t12) 8 t12) 27 t12) 28 t14) 29 t12) 4 t12) w13)
     (Rd Try.prog (WS.at w13) (sBin .add 3 true (f3 11) (.int .i64 1)) fun t15 =>
     Q2 .normal (F.upd (F.upd (F.upd (F.upd (F.upd (F.upd (F.upd (F.upd (F.upd (F.upd (F.upd (F.upd (F.upd (F.upd (F.upd (F.upd (F.upd (F.upd (F.upd (F.upd (F.upd (F.upd (F.upd f3 12 t5) 13 (f3 11)) 14 t6) 15 t7) 5 (f3 11)) 6 t7) 16 (f3 11)) 17 (f3 1)) 18 t8) 19 t9) 20 (f3 1)) 21 (f3 11)) 22 t10) 23 t11) 7 t11) 24 t7) 25 t11) 26 t12) 8 t12) 27 t12) 28 t14) 30 t15) 11 t15) w13)) w4))
   (Q2 (.exit 0) (F.upd f3 12 t5) w4))
  (blockQ 0 (seqQ (fun f16 w17 =>
 Rd Try.prog (WS.at w17) (sBuiltin .len #[22] 3 [false] [(f16 0)]) fun t18 =>
 Rd Try.prog (WS.at w17) (sBuiltin .len #[22] 3 [false] [(f16 1)]) fun t19 =>
 Rd Try.prog (WS.at w17) (sBin .lss 3 false t18 t19) fun t20 =>
 CondK t20
  (k (.int .i64 (-1)) w17)
  (k (.int .i64 0) w17)) (bodyQ Try.prog [.tmp 4] k)))
  (F.upd (F.upd (F.upd (F.upd (initF [v0, v1]) 4 (.int .i64 0)) 9 v0) 10 t1) 11 (.int .i64 0)) w
theorem body164 : Try.f164.body = some (bodyOf Try.f164) := by kernel_rfl
theorem same164 (v0 v1 : Value) (k : Value → World → Prop) (w : World) : wpF Try.prog pl164 (bodyOf Try.f164) (bodyQ Try.prog Try.f164.results.toList k) (initF [v0, v1]) w = S164 v0 v1 k w := by kernel_rfl
theorem enter164 {v0 v1 : Value} {k : Value → World → Prop} {w : World} (h : S164 v0 v1 k w) : CallK Try.prog 164 [v0, v1] k w :=
  call_of_wpF (pl := pl164) mixed Try.func164 body164 (by kernel_rfl) (of_decide_eq_true (by kernel_rfl)) (by kernel_rfl) (by kernel_rfl) (same164 v0 v1 k w ▸ h)

/-! loop.example/g00758/spec.l5Less -/
def pl183 : Plans := fun i => match i with
  | 4 => ⟨false, [], .step 0 .any (.step 1 .any (.step 2 .any (.step 3 .held (.step 4 .any (.step 5 .any (.step 6 .any (.step 7 .held (.step 8 .any (.nil)))))))))⟩
  | 5 => ⟨false, [], .step 0 .any (.step 1 .any (.step 2 .any (.step 3 .held (.step 4 .any (.step 5 .any (.step 6 .any (.step 7 .held (.step 8 .any (.step 9 .any (.nil))))))))))⟩
  | _ => ⟨false, [], .nil⟩
def S183 (v0 v1 : Value) (k : Value → World → Prop) (w : World) : Prop :=
 Rd Try.prog (WS.at w) (sBuiltin .len #[22] 3 [false] [v0]) fun t1 =>
 LoopF [9, 10, 5, 11, 12, 13, 14, 15, 16, 17, 18, 19, 20, 21, 22, 23, 24, 25, 26, 27, 28, 4, 29, 8] (fun Q2 f3 w4 =>
  Rd Try.prog (WS.at w4) (sBin .lss 3 false (f3 8) (f3 7)) fun t5 =>
  CondK t5
   (Rd Try.prog WS.any (sIndexAddr 22 (f3 0) (f3 8)) fun t6 =>
   Rd Try.prog (WS.at w4.drew) (sLoad 3 t6) fun t7 =>
   Rd Try.prog WS.any (sIndexAddr 22 (f3 1) (f3 8)) fun t8 =>
   Rd Try.prog (WS.at w4.drew) (sLoad 3 t8) fun t9 =>
   Rd Try.prog WS.any (sBin .neq 3 false t7 t9) fun t10 =>
   CondK t10
    (Rd Try.prog WS.any (sIndexAddr 22 (f3 0) (f3 8)) fun t11 =>
    Rd Try.prog (WS.at w4.drew.drew) (sLoad 3 t11) fun t12 =>
    Rd Try.prog WS.any (sIndexAddr 22 (f3 1) (f3 8)) fun t13 =>
    Rd Try.prog (WS.at w4.drew.drew) (sLoad 3 t13) fun t14 =>
    Rd Try.prog WS.any (sBin .lss 3 false t12 t14) fun t15 =>
    Q2 .ret (F.upd (F.upd (F.upd (F.upd (F.upd (F.upd (F.upd (F.upd (F.upd (F.upd (F.upd (F.upd (F.upd (F.upd (F.upd (F.upd (F.upd (F.upd (F.upd (F.upd (F.upd (F.upd f3 9 t5) 10 (f3 8)) 5 (f3 8)) 11 (f3 0)) 12 (f3 8)) 13 t6) 14 t7) 15 (f3 1)) 16 (f3 8)) 17 t8) 18 t9) 19 t10) 20 (f3 0)) 21 (f3 8)) 22 t11) 23 t12) 24 (f3 1)) 25 (f3 8)) 26 t13) 27 t14) 28 t15) 4 t15) w4.drew.drew)
    (Rd Try.prog (WS.at w4.drew) (sBin .add 3 true (f3 8) (.int .i64 1)) fun t16 =>
    Q2 .normal (F.upd (F.upd (F.upd (F.upd (F.upd (F.upd (F.upd (F.upd (F.upd (F.upd (F.upd (F.upd (F.upd (F.upd f3 9 t5) 10 (f3 8)) 5 (f3 8)) 11 (f3 0)) 12 (f3 8)) 13 t6) 14 t7) 15 (f3 1)) 16 (f3 8)) 17 t8) 18 t9) 19 t10) 29 t16) 8 t16) w4.drew))
   (Q2 (.exit 0) (F.upd f3 9 t5) w4))
  (blockQ 0 (seqQ (fun f17 w18 =>
 k (.bool false) w18) (bodyQ Try.prog [.tmp 4] k)))
  (F.upd (F.upd (F.upd (F.upd (initF [v0, v1]) 4 (.bool false)) 6 v0) 7 t1) 8 (.int .i64 0)) w
theorem body183 : Try.f183.body = some (bodyOf Try.f183) := by kernel_rfl
theorem same183 (v0 v1 : Value) (k : Value → World → Prop) (w : World) : wpF Try.prog pl183 (bodyOf Try.f183) (bodyQ Try.prog Try.f183.results.toList k) (initF [v0, v1]) w = S183 v0 v1 k w := by kernel_rfl
theorem enter183 {v0 v1 : Value} {k : Value → World → Prop} {w : World} (h : S183 v0 v1 k w) : CallK Try.prog 183 [v0, v1] k w :=
  call_of_wpF (pl := pl183) mixed Try.func183 body183 (by kernel_rfl) (of_decide_eq_true (by kernel_rfl)) (by kernel_rfl) (by kernel_rfl) (same183 v0 v1 k w ▸ h)

/-! cmp.isNaN[int] -/
def pl187 : Plans := fun _ => ⟨false, [], .nil⟩
def S187 (v0 : Value) (k : Value → World → Prop) (w : World) : Prop :=
 Rd Try.prog (WS.at w) (sBin .neq 3 false v0 v0) fun t1 =>
 k t1 w
theorem body187 : Try.f187.body = some (bodyOf Try.f187) := by kernel_rfl
theorem same187 (v0 : Value) (k : Value → World → Prop) (w : World) : wpF Try.prog pl187 (bodyOf Try.f187) (bodyQ Try.prog Try.f187.results.toList k) (initF [v0]) w = S187 v0 k w := by kernel_rfl
theorem enter187 {v0 : Value} {k : Value → World → Prop} {w : World} (h : S187 v0 k w) : CallK Try.prog 187 [v0] k w :=
  call_of_wpF (pl := pl187) mixed Try.func187 body187 (by kernel_rfl) (of_decide_eq_true (by kernel_rfl)) (by kernel_rfl) (by kernel_rfl) (same187 v0 k w ▸ h)

end Go.Proofs.Ytiohaeckagjebaa
