/- Texts of this repository put together: ShQ7, ShQ8, ShS2, ShS3, ShS4, ShC3, ShC5, ShT1, ShQ9, Bg, ShU1, ShU2, ShH6, Bm, ShJ0, ShU4, ShU5, ShU6, ShY1, ShX1, ShX2, ShY2, ShZ1, ShD1, ShR, ShZ2. -/
import Derived.Test.YtegcjkhebecgbaaKLongEnoughb
import Derived.Test.YtegcjkhebecgbaaKLongEnougha
import Derived.Test.YtegcjkhebecgbaaProg
import Derived.WalkKit
import Derived.ProofKit
import Derived.OpenShut
import Derived.ShutString
import Derived.ChangeOld
import Derived.Below
import Derived.SizedLaws
import Derived.Deep.Slices

/- Contract: the first two parts that can be pumped, by the program. -/
set_option linter.unusedVariables false
set_option linter.unusedSimpArgs false
set_option maxRecDepth 100000
namespace Go.Proofs.Ytegcjkhebecgbaa
open Go Go.Sh Go.RowKit

theorem pump_c {gm : Gram} {tree : List Int} {p : PT} {ws : List Int} (hW : Whole gm tree p ws) {F : Nat → Prop} {w : World} {b : Nat} (hF : ∀ q, F q → q < w.heap.size) (hp : PartAt F w p b) {k : Value → World → Prop}
    (hk0 : pumpV p.parts = none → ∀ w', Gr w w' → k (.tuple #[.pointer none, .pointer none]) w')
    (hk1 : ∀ i j, pumpV p.parts = some (i, j) → ∀ w' b1 b2, Gr w w' → PartAt F w' (ptn p.parts i) b1 → PartAt F w' (ptn p.parts j) b2 → k (.tuple #[ptrv b1, ptrv b2]) w') :
    CallK Try.prog 222 [ptrv b] k w := by
  have hlen := hW.len
  have h60 := hW.le
  have hlaid := hW.laid
  refine enter222 ?_
  unfold S222
  have H := Apt.nil w
  refine parts_c p.parts.length (Nat.le_refl _) (by omega) hF hp fun w1 U d bs g1 r1 a1 => ?_
  have H := H.addRow g1 r1
  generalize hP : p.parts = P at *
  have hbl := a1.1
  simp only [go_sem, Nat.reduceEqDiff]
  refine loop_to P.length 0 (fun i f w' => i ≤ P.length ∧ f 11 = .int .i64 i ∧ (∀ p', p' < i → Dry P p' (ptn P p').fin) ∧ Apt w w' [rwi 151 1 U bs.length d (bs.map ptrv)]) ⟨Nat.zero_le _, rfl, fun p' h => absurd h (Nat.not_lt_zero _), H⟩ ?_
  have g1' := g1
  rintro i f w3 N hag ⟨hi, h11, hdry, H⟩ hN
  have f9 : f 9 = .slice U bs.length d := hag 9 (by decide)
  have f10 : f 10 = .int .i64 bs.length := hag 10 (by decide)
  simp only [f9, f10, h11, go_sem, Nat.reduceEqDiff]
  by_cases hlt : i < P.length
  case neg =>
    simp only [show ¬ (i : Int) < bs.length from by omega, decide_false, go_sem, Nat.reduceEqDiff]
    obtain rfl : i = P.length := by omega
    exact hk0 (pumpV_none hdry) _ H.gr
  simp only [show (i : Int) < bs.length from by omega, decide_true, go_sem, Nat.reduceEqDiff]
  obtain ⟨l1, l2, l3, l4⟩ := hlaid i hlt
  rw [← ptn_eq hlt] at l1 l2 l3 l4
  have hpi := (a1.2 i hlt).across hF g1 H.gr
  have G3 := H.gr
  rw [ixn154 (Row.ptr (H.row 0 rfl)) (by omega), ld151 ((H.row 0 rfl).src.cell i _ (ptrs_at (by omega)))]
  have hF3 : ∀ q, F q → q < w3.heap.size := fun q hq => Nat.lt_of_lt_of_le (hF q hq) H.gr.size
  have hni : (ptn P i).parts.length = (ptn P i).fin - i := by
    rw [l4, List.length_take, List.length_drop]
    omega
  refine parts_c (ptn P i).parts.length (Nat.le_refl _) (by omega) hF3 hpi fun w4 V e cs g4 r4 a4 => ?_
  have g34 := gr_trans H.gr g4
  have H := H.addRow g4 r4
  have hcl := a4.1
  rw [sll154 (by decide) (by omega)]
  simp only [go_sem, Nat.reduceEqDiff]
  refine loop_to (cs.length - 1) 0 (fun j f' w' => j ≤ cs.length - 1 ∧ f' 19 = .int .i64 j ∧ Dry P i (i + 1 + j) ∧ Apt w w' [rwi 151 1 U bs.length d (bs.map ptrv), rwi 151 1 V cs.length e (cs.map ptrv)]) ⟨Nat.zero_le _, rfl, fun q' h1 h2 => by omega, H⟩ ?_
  rintro j f' w5 N' hag' ⟨hj1, h19, hd, H⟩ hN'
  have f17 : f' 17 = .slice (sub V (Int.toNat 1) e 1) (cs.length - Int.toNat 1) (e - Int.toNat 1) := hag' 17 (by decide)
  have f18 : f' 18 = .int .i64 ((cs.length - Int.toNat 1 : Nat) : Int) := hag' 18 (by decide)
  have f5 : f' 5 = ptrv (bs.getD i 0) := hag' 5 (by decide)
  have f11 : f' 11 = .int .i64 i := (hag' 11 (by decide)).trans h11
  simp only [f17, f18, f5, f11, h19, go_sem, Nat.reduceEqDiff]
  rw [show (1 : Int).toNat = 1 from rfl] at *
  by_cases hltj : j < cs.length - 1
  case neg =>
    simp only [show ¬ (j : Int) < (cs.length - 1 : Nat) from by omega, decide_false, go_sem, Nat.reduceEqDiff]
    rw [i64_of (by omega) (by omega)]
    refine hN _ _ hlt ⟨hlt, rfl, fun p' hp' => ?_, H.take 1⟩
    by_cases e : p' = i
    · rw [e]
      rw [show (ptn P i).fin = i + 1 + j from by omega]
      exact hd
    · exact hdry p' (by omega)
  simp only [show (j : Int) < (cs.length - 1 : Nat) from by omega, decide_true, go_sem, Nat.reduceEqDiff]
  have hsrc := (Row.src (H.row 1 rfl)).sub (l := 1) (c := e) (sz := 1) (by simp; omega) (by have := (H.row 1 rfl).cap; simp; omega) cs.length
  have hcell : (((cs.map ptrv).drop (1 * 1)).take cs.length)[j]? = some (ptrv (cs.getD (1 + j) 0)) := by
    rw [List.getElem?_take_of_lt (by omega), List.getElem?_drop, Nat.one_mul]
    exact ptrs_at (by omega)
  have hyi := a4.2 (1 + j) (by omega)
  have hq : ptn (ptn P i).parts (1 + j) = ptn P (i + 1 + j) := by
    rw [l4, ptn_drop (by omega)]
    congr 1
    omega
  rw [hq] at hyi
  have Hd := H.drew
  have hx5 : PartAt F w5.drew (ptn P i) (bs.getD i 0) := hpi.across hF G3 Hd.gr
  have hy5 : PartAt F w5.drew (ptn P (i + 1 + j)) (cs.getD (1 + j) 0) := hyi.across hF g34 Hd.gr
  obtain ⟨Xx, cx, bx, _, _, _⟩ := hx5.box
  obtain ⟨Xy, cy, by_, _, _, _⟩ := hy5.box
  have hj9 : i + 1 + j < (ptn P i).fin := by omega
  have found : pairT (ptn P i) (ptn P (i + 1 + j)) = true → k (.tuple #[ptrv (bs.getD i 0), ptrv (cs.getD (1 + j) 0)]) w5.drew := fun hp =>
    hk1 i (i + 1 + j) (pumpV_some hlt (by omega) hj9 hp hd hdry) _ _ _ Hd.gr hx5 hy5
  have next : pairT (ptn P i) (ptn P (i + 1 + j)) = false → Dry P i (i + 1 + (j + 1)) := fun hp => dry_next hd hp
  rw [ixn154 (fun _ => hsrc.ptr (by
    intro e0
    rw [e0] at hcell
    simp at hcell)) hltj, ld151 (hsrc.cell j _ hcell)]
  simp only [go_sem, Nat.reduceEqDiff]
  rw [ldB3 bx rfl, ldB3 by_ rfl]
  simp only [go_sem, Nat.reduceEqDiff]
  by_cases hnon : (ptn P i).non = (ptn P (i + 1 + j)).non
  case neg =>
    simp only [hnon, decide_false, go_sem, Nat.reduceEqDiff]
    rw [i64_of (by omega) (by omega)]
    exact hN' _ _ hltj ⟨hltj, rfl, next (by simp [pairT, hnon]), Hd⟩
  simp only [hnon, decide_true, go_sem, Nat.reduceEqDiff]
  rw [ldB3 bx rfl, ldB3 by_ rfl]
  simp only [Int.natCast_inj, go_sem, Nat.reduceEqDiff]
  by_cases hfr : (ptn P i).fr = (ptn P (i + 1 + j)).fr
  case neg =>
    simp only [hfr, decide_false, Bool.not_false, go_sem, Nat.reduceEqDiff]
    exact found (by simp [pairT, hnon, hfr])
  simp only [hfr, decide_true, Bool.not_true, go_sem, Nat.reduceEqDiff]
  rw [ldB3 bx rfl, ldB3 by_ rfl]
  simp only [Int.natCast_inj, go_sem, Nat.reduceEqDiff]
  by_cases hto : (ptn P i).to = (ptn P (i + 1 + j)).to
  case pos =>
    simp only [hto, decide_true, Bool.not_true, go_sem, Nat.reduceEqDiff]
    rw [i64_of (by omega) (by omega)]
    exact hN' _ _ hltj ⟨hltj, rfl, next (by simp [pairT, hfr, hto]), Hd⟩
  simp only [hto, decide_false, Bool.not_false, go_sem, Nat.reduceEqDiff]
  exact found (by simp [pairT, hnon, hto])
end Go.Proofs.Ytegcjkhebecgbaa

/- Contract: the tree that a list of rules begins with, read by the program. -/
set_option linter.unusedVariables false
set_option linter.unusedSimpArgs false
set_option maxRecDepth 100000
namespace Go.Sh
open Go
def pti (F : Nat → Prop) (p : PT) (b : Nat) : Thing := ⟨fun w => PartAt F w p b, F⟩
def ptsi (F : Nat → Prop) (ks : List PT) (bs : List Nat) : Thing := ⟨fun w => AllPt F w ks bs, F⟩
theorem AllPt.same {F : Nat → Prop} {w w' : World} {ps : List PT} {bs : List Nat} (h : AllPt F w ps bs) (hs : ∀ q, F q → w'.heap[q]? = w.heap[q]?) : AllPt F w' ps bs := ⟨h.1, fun i hi => PartAt.same hs _ _ (h.2 i hi)⟩
theorem AllPt.mono {F E : Nat → Prop} {w : World} {ps : List PT} {bs : List Nat} (h : AllPt F w ps bs) (he : ∀ q, F q → E q) : AllPt E w ps bs := ⟨h.1, fun i hi => PartAt.mono he _ _ (h.2 i hi)⟩
theorem KidsAt.of_all {F E : Nat → Prop} {w : World} {X : Option Addr} (he : ∀ q, F q → E q) : ∀ {ks : List PT} {bs : List Nat} {j : Nat}, (∀ i, i < bs.length → w.cell? ((ad X).add (j + i)) = some (ptrv (bs.getD i 0))) → AllPt F w ks bs → KidsAt E w ks X j := by
  intro ks
  induction ks with
  | nil => intro bs j _ _; simp only [KidsAt]
  | cons k ks ih =>
    intro bs j hc ha
    cases bs with
    | nil => have := ha.1; simp at this
    | cons b bs =>
      simp only [KidsAt]
      refine ⟨⟨b, by simpa using hc 0 (by simp), PartAt.mono he _ _ (by simpa [ptn] using ha.2 0 (by simp))⟩, ih (bs := bs) (fun i hi => ?_) ⟨by have := ha.1; simpa using this, fun i hi => ?_⟩⟩
      · have := hc (i + 1) (by simpa using hi)
        rw [show j + 1 + i = j + (i + 1) from by omega]
        simpa using this
      · have := ha.2 (i + 1) (by simpa using hi)
        simpa [ptn] using this
theorem good_symb {g : Gram} (hg : goodG g = true) {q : Nat} (hq : q < g.rules.length) {i : Nat} (hi : i < (rul g.rules q).2.length) : -4 ≤ (rul g.rules q).2.getD i 0 ∧ (rul g.rules q).2.getD i 0 ≤ 5 ∧ -g.toks ≤ (rul g.rules q).2.getD i 0 ∧ (rul g.rules q).2.getD i 0 ≤ g.nons - 1 := by
  have hn := good_nons hg
  have ht := good_toks hg
  simp only [goodG, Bool.and_eq_true, List.all_eq_true] at hg
  have h1 := hg.2 q (List.mem_range.2 hq)
  simp only [goodR, Bool.and_eq_true, List.all_eq_true] at h1
  have h2 := h1.1.2 _ (getD_mem hi)
  simp only [symB, inB, Bool.and_eq_true, decide_eq_true_eq] at h2
  omega
/-- A node, its row of kids, and the kids, as one tree. -/
theorem tree_of {w : World} {F : Nat → Prop} {b c : Nat} {K : Option Addr} {ks : List PT} {bs : List Nat} {non : Int} {rule a e f t : Nat} (hb : Box w b [.int .i64 non, .int .i64 rule, .int .i64 a, .int .i64 e, .int .i64 f, .int .i64 t, .slice K ks.length c] 156) (hr : Row w 0 151 1 K bs.length c (bs.map ptrv)) (ha : AllPt F w ks bs) :
    PartAt (fun q => q = b ∨ (blk K = some q ∨ F q)) w (.mk non rule a e f t ks) b := by
  have hl := ha.1
  simp only [PartAt]
  refine ⟨by simp, K, c, hb, fun hp => ⟨hr.ptr (by omega), ?_⟩, by have := hr.cap; omega, KidsAt.of_all (fun q hq => .inr (.inr hq)) (fun i hi => ?_) ha⟩
  · have := hr.ptr (show 0 < bs.length by omega)
    exact .inr (.inl (by rw [this]; rfl))
  · rw [Nat.zero_add]
    exact hr.src.cell i _ (by simp [List.getD_eq_getElem?_getD, hi])
end Go.Sh
namespace Go.Proofs.Ytegcjkhebecgbaa
open Go Go.Sh Go.RowKit
theorem symbolOf_c {x : Int} {w : World} {k : Value → World → Prop} (hk : k (.int .i64 (IntKind.i64.wrap (-1 - x))) w) : CallK Try.prog 254 [.int .i64 x] k w := by
  refine enter254 ?_
  unfold S254
  simp only [go_sem, Nat.reduceEqDiff]
  exact hk
abbrev readF (bR bG bW bF : Nat) : Value := .func (.func 260) #[] #[ptrv bR, ptrv bG, ptrv bW, ptrv bF]
/-- What the closure holds. -/
abbrev held4 (gm : Gram) (tree : List Int) (X Y : Option Addr) (c cy bR bG bW bF : Nat) (W : Option Addr) (cw : Nat) (ws : List Int) : List Thing :=
  [bx bR [.slice X tree.length c] 27, bx bG [.int .i64 gm.nons, .int .i64 gm.toks, .slice Y gm.rules.length cy] 26, bx bW [.slice W ws.length cw] 27, bx bF [readF bR bG bW bF] 220, ows W cw ws]

theorem read_c {gm : Gram} {tree : List Int} {X Y : Option Addr} {c cy bR bG bW bF : Nat} (hg : goodG gm = true) (ht : tree.length ≤ 60) {F : Nat → Prop} {w0 : World} (hx : Ints w0 X tree) (hy : RulesF F w0 Y gm.rules) :
    ∀ (fu : Nat) {w : World} {M : List Thing} {W : Option Addr} {cw : Nat} {ws : List Int} {non : Int} {a : Nat} {k : Value → World → Prop}, Apt w0 w (held4 gm tree X Y c cy bR bG bW bF W cw ws ++ M) → tree.length - a ≤ fu → ws.length + 4 * (tree.length - a) ≤ 1000 →
    (readT gm.rules tree fu non a ws = none → ∀ w' v W' cw' ws', Apt w0 w' (held4 gm tree X Y c cy bR bG bW bF W' cw' ws' ++ M) → k (.tuple #[v, .bool false]) w') →
    (∀ p ws', readT gm.rules tree fu non a ws = some (p, ws') → ∀ w' b E W' cw', Apt w0 w' (held4 gm tree X Y c cy bR bG bW bF W' cw' ws' ++ pti E p b :: M) → k (.tuple #[ptrv b, .bool true]) w') →
    CallK Try.prog 260 [.int .i64 non, .int .i64 a, ptrv bR, ptrv bG, ptrv bW, ptrv bF] k w := by
  have hr16 := good_len hg
  have hxl := hx.le
  intro fu
  induction fu with
  | zero =>
    intro w M W cw ws non a k H hf hb hn hs
    refine enter260 ?_
    unfold S260
    have H := H.drew
    refine ⟨fun w' => Gr w.drew w', Gr.refl _, ?_⟩
    rw [rdG one27 (H.box 0 rfl) rfl]
    simp only [go_sem, Nat.reduceEqDiff]
    simp only [show (tree.length : Int) ≤ a from by omega, decide_true, go_sem, Nat.reduceEqDiff]
    exact ⟨Gr.refl _, hn rfl _ _ _ _ _ H⟩
  | succ fu ih =>
    intro w M W cw ws non a k H hf hb hn hs
    refine enter260 ?_
    unfold S260
    have H := H.drew
    refine ⟨fun w' => Gr w.drew w', Gr.refl _, ?_⟩
    rw [rdG one27 (H.box 0 rfl) rfl]
    simp only [go_sem, Nat.reduceEqDiff]
    by_cases hlt : a < tree.length
    case neg =>
      simp only [show (tree.length : Int) ≤ a from by omega, decide_true, go_sem, Nat.reduceEqDiff]
      exact ⟨Gr.refl _, hn (readT_no (okT_lt hlt)) _ _ _ _ _ H⟩
    simp only [show ¬ ((tree.length : Int) ≤ a) from by omega, decide_false, go_sem, Nat.reduceEqDiff]
    rw [rdG one27 (H.box 0 rfl) rfl, ixn27 hx.ptr hlt, ldS3 (fun w' hw' => Gr.cell hw' ((hx.gr H.gr).cell a hlt))]
    rw [rdG one24 (H.box 1 rfl) rfl]
    simp only [go_sem, Nat.reduceEqDiff]
    rw [i64_of (by omega) (by omega)]
    refine in_c ?_
    refine ⟨Gr.refl _, ?_⟩
    by_cases hin : inB (tree.getD a 0) 0 ((gm.rules.length : Int) - 1) = true
    case neg =>
      have hin := Bool.eq_false_iff.2 hin
      simp only [hin, Bool.not_false, go_sem, Nat.reduceEqDiff]
      exact hn (readT_no (okT_in hin)) _ _ _ _ _ H
    obtain ⟨q, hqe, hq⟩ : ∃ q : Nat, tree.getD a 0 = q ∧ q < gm.rules.length := by
      simp only [inB, Bool.and_eq_true, decide_eq_true_eq] at hin
      exact ⟨(tree.getD a 0).toNat, by omega, by omega⟩
    simp only [hin, Bool.not_true, go_sem, Nat.reduceEqDiff]
    obtain ⟨Z, cz, h1, h2, h3, h4⟩ := hy.row q hq
    rw [rdG one24 (H.box 1 rfl) rfl, rdG one27 (H.box 0 rfl) rfl, ixn27 hx.ptr hlt, ldS3 (fun w' hw' => Gr.cell hw' ((hx.gr H.gr).cell a hlt)), hqe, ixn24 hy.ptr hq, fa33_0, zq35, ldS3 (fun w' hw' => Gr.cell hw' (H.gr.cell h1))]
    simp only [go_sem, Nat.reduceEqDiff]
    by_cases hne : (rul gm.rules q).1 = non
    case neg =>
      simp only [hne, decide_false, Bool.not_false, go_sem, Nat.reduceEqDiff]
      exact hn (readT_no (okT_ne hqe hne)) _ _ _ _ _ H
    simp only [hne, decide_true, Bool.not_true, go_sem, Nat.reduceEqDiff]
    have H := H.drew
    rw [ldB27 (H.box 0 rfl) rfl, ixn27 hx.ptr hlt, ld3 ((hx.gr H.gr).cell a hlt), hqe, ldB27 (H.box 2 rfl) rfl]
    simp only [go_sem, Nat.reduceEqDiff]
    rw [i64_of (by omega) (by omega), bd156 (cells := #[.int .i64 non, .int .i64 q, .int .i64 a, .int .i64 ((a : Int) + 1), .int .i64 ws.length, .int .i64 0, .slice none 0 0]) rfl]
    refine boxH H fun bN w1 H => ?_
    have H := ((H.insert 5).addNil 151 1).insert 6
    have H := (H.add (Gr.refl _) (ptsi (fun _ => False) [] []) (fun q h => h.elim) (fun q h => h.elim) fun _ _ => ⟨rfl, fun i hi => by simp at hi⟩).insert 7
    simp only [List.nil_append, List.cons_append, List.take_succ_cons, List.drop_succ_cons, List.take_zero, List.drop_zero, List.take_nil, List.drop_nil] at H
    have H := H.drew
    rw [ldB24 (H.box 1 rfl) rfl]
    simp only [go_sem, Nat.reduceEqDiff]
    rw [ldB3 (H.box 5 rfl) rfl, ixn24 hy.ptr hq, fa33_1, add_add, ld27 (H.gr.cell h2)]
    simp only [go_sem, Nat.reduceEqDiff]
    have hread := fun w => readT_of (f := fu) (w := w) (okT_of hlt hin hqe hne) hqe
    have hsym := fun i => @good_symb gm hg q hq i
    have hR4 := good_rule hg q hq
    rw [hread ws] at hn hs
    clear h1 h2 hread hne
    generalize (rul gm.rules q).2 = R at *
    refine loop_to R.length 0 (fun i f w' => i ≤ R.length ∧ f 66 = .int .i64 i ∧ ∃ (ks : List PT) (cur : List Int) (W : Option Addr) (cw : Nat) (K : Option Addr) (ck : Nat) (kbs : List Nat) (E : Nat → Prop) (e : Nat), e = a + 1 + (PT.partsL ks).length ∧ e ≤ tree.length ∧ cur.length ≤ ws.length + i + 4 * (PT.partsL ks).length ∧ readR (readT gm.rules tree fu) (R.drop i) e cur ks = readR (readT gm.rules tree fu) R (a + 1) ws [] ∧
      Apt w0 w' (held4 gm tree X Y c cy bR bG bW bF W cw cur ++ bx bN [.int .i64 non, .int .i64 q, .int .i64 a, .int .i64 e, .int .i64 ws.length, .int .i64 0, .slice K ks.length ck] 156 :: rwi 151 1 K ks.length ck (kbs.map ptrv) :: ptsi E ks kbs :: M))
      ⟨Nat.zero_le _, rfl, [], ws, W, cw, none, 0, [], fun _ => False, a + 1, by simp [PT.partsL], hlt, by simp, rfl, H⟩ ?_
    rintro i f w2 N hag ⟨hi, h66, ks, cur, W2, cw2, K, ck, kbs, E, e, he, hel, hcl, hE, H⟩ hN
    have f64 : f 64 = .slice Z R.length cz := hag 64 (by decide)
    have f65 : f 65 = .int .i64 R.length := hag 65 (by decide)
    have f4 : f 4 = ptrv bW := hag 4 (by decide)
    have f5 : f 5 = ptrv bF := hag 5 (by decide)
    have f10 : f 10 = ptrv bN := hag 10 (by decide)
    simp only [f64, f65, f4, f5, f10, h66, go_sem, Nat.reduceEqDiff]
    have hkbl : kbs.length = ks.length := (show AllPt E w2 ks kbs from H.get 7 rfl).1
    have hkl := kids_le ks
    by_cases hlt2 : i < R.length
    case neg =>
      simp only [show ¬ (i : Int) < R.length from by omega, decide_false, go_sem, Nat.reduceEqDiff]
      rw [List.drop_eq_nil_of_le (by omega), readR] at hE
      rw [← hE] at hs
      rw [ldB27 (H.box 2 rfl) rfl]
      simp only [go_sem, Nat.reduceEqDiff]
      refine storeH H 5 rfl sz3 rfl rfl rfl fun w3 H => ?_
      have H := H.both 6 7 (by decide) rfl rfl
      have H := H.both 5 6 (by decide) rfl rfl
      have H := H.weaken 5 (b := pti (fun q => q = bN ∨ (blk K = some q ∨ E q)) (.mk non q a e ws.length cur.length ks) bN) rfl (fun q hq => hq) (fun w' _ hp => tree_of hp.1 (by rw [hkbl]; exact hp.2.1) hp.2.2) (fun w' w'' hh hp => PartAt.same hh _ _ hp)
      exact hs _ _ rfl _ _ _ _ _ H
    simp only [show (i : Int) < R.length from by omega, decide_true, go_sem, Nat.reduceEqDiff]
    rw [drop_getD hlt2] at hE
    have hRl := h4.is.le
    rw [ixn27 h4.is.ptr hlt2, ld3 ((h4.is.gr H.gr).cell i hlt2)]
    obtain ⟨s1, s2, _⟩ := hsym i hlt2
    by_cases hneg : R.getD i 0 < 0
    · simp only [hneg, decide_true, go_sem, Nat.reduceEqDiff]
      rw [readR_tok hneg] at hE
      have H := H.drew
      refine ⟨fun w' => Gr w2.drew w', Gr.refl _, ?_⟩
      rw [rdG one27 (H.box 2 rfl) rfl]
      refine symbolOf_c ?_
      refine ⟨Gr.refl _, ?_⟩
      rw [i64_of (by omega) (by omega)]
      refine bs27 [.int .i64 (-1 - R.getD i 0)] (by decide) (by simp [Instr.fill, madeCells, Value.cells, rng1]) rfl fun b3 w3 hb3 hb3' g3 hB3 hr3 => ?_
      refine ⟨g3, ?_⟩
      have H := H.step g3
      refine apH H 4 rfl (ys := [-1 - R.getD i 0]) (Own.ints (show Own 3 w3 w2.drew.heap.size (some ⟨b3, 0, none⟩) 1 [-1 - R.getD i 0] from hr3 _ (Nat.le_refl _))) rfl rfl (by simp; omega) fun X' c' w4 H => ?_
      refine storeH H 2 rfl sz27 rfl rfl rfl fun w5 H => ?_
      rw [i64_of (by omega) (by omega)]
      exact hN _ _ hlt2 ⟨hlt2, rfl, ks, cur ++ [-1 - R.getD i 0], X', c', K, ck, kbs, E, e, he, hel, by simp; omega, hE, H⟩
    · simp only [hneg, decide_false, go_sem, Nat.reduceEqDiff]
      have H := H.drew
      rw [ldB220 (H.box 3 rfl) rfl, ldB3 (H.box 5 rfl) rfl]
      refine callVc (caps := [ptrv bR, ptrv bG, ptrv bW, ptrv bF]) ?_
      refine ih H (by omega) (by omega) (fun hz w3 v W3 cw3 ws3 H => ?_) fun kid ws3 hz w3 b E' W3 cw3 H => ?_
      · simp only [go_sem, Nat.reduceEqDiff]
        have hnone : readR (readT gm.rules tree fu) R (a + 1) ws [] = none := by
          rw [← hE, readR, if_neg hneg, hz]
        rw [hnone] at hn
        exact hn rfl _ _ _ _ _ (((H.erase 5).erase 5).erase 5)
      · simp only [go_sem, Nat.reduceEqDiff]
        have hkl2 := readT_laid _ _ _ _ _ _ _ _ hz
        have hkw := readT_words (good_rule hg) _ _ _ _ _ _ hz
        have hkf := readT_le hz
        rw [ldB154 (H.box 6 rfl) rfl]
        refine bs154 [ptrv b] (by decide) (by simp [Instr.fill, madeCells, Value.cells, rng1]) rfl fun b4 w4 hb4 hb4' g4 hB4 hr4 => ?_
        have H := H.step g4
        refine appendH H 7 rfl u154 inf151 rfl (by decide) (Row.src (hr4 _ (Nat.le_refl _))) rfl (ptrs_one [b]) (by omega) (by omega) fun X' c' w5 H => ?_
        refine storeH H 6 rfl sz154 rfl rfl rfl fun w6 H => ?_
        obtain ⟨Xk, ck', hbk, _⟩ := (show PartAt E' w6 kid b from H.get 5 rfl).box
        rw [ldB3 hbk rfl]
        refine storeH H 6 rfl sz3 rfl rfl rfl fun w7 H => ?_
        have H := H.both 8 5 (by decide) rfl rfl
        have H := H.weaken 7 (b := ptsi (fun q => E q ∨ E' q) (ks ++ [kid]) (kbs ++ [b])) rfl (fun q hq => hq) (fun w' _ hp => (AllPt.mono hp.1 fun q h => .inl h).append (AllPt.one (PartAt.mono (fun q h => .inr h) _ _ hp.2))) (fun w' w'' hh hp => AllPt.same hp hh)
        rw [i64_of (by omega) (by omega)]
        refine hN _ _ hlt2 ⟨hlt2, rfl, ks ++ [kid], ws3, W3, cw3, X', c', kbs ++ [b], fun q => E q ∨ E' q, kid.fin, ?_, hkf, ?_, ?_, ?_⟩
        · rw [partsL_append]
          simp only [PT.partsL, List.append_nil, List.length_append]
          omega
        · rw [partsL_append]
          simp only [PT.partsL, List.append_nil, List.length_append]
          omega
        · rw [← hE, readR, if_neg hneg, hz]
        · rw [List.map_append, List.length_append]
          exact H
end Go.Proofs.Ytegcjkhebecgbaa

/- Contracts: what derives a part of a word, by the program. -/
set_option linter.unusedVariables false
set_option linter.unusedSimpArgs false
set_option maxRecDepth 100000
namespace Go.Sh
open Go
def cellsT (T : Tab) : List Value := (List.range 726).map fun p => .bool (cellT T p)
theorem cellsT_length (T : Tab) : (cellsT T).length = 726 := by simp [cellsT]
theorem cellT_at {T : Tab} {x i j : Nat} (hi : i < 11) (hj : j < 11) : cellT T (x * 121 + i * 11 + j) = T x i j := by
  have e1 : (x * 121 + i * 11 + j) / 121 = x := by omega
  have e2 : (x * 121 + i * 11 + j) / 11 % 11 = i := by omega
  have e3 : (x * 121 + i * 11 + j) % 11 = j := by omega
  simp [cellT, e1, e2, e3]
theorem cellsT_at {T : Tab} {v : Value} {x i j : Nat} (hx : x < 6) (hi : i < 11) (hj : j < 11) : (v :: cellsT T)[x * 121 + i * 11 + j + 1]? = some (.bool (T x i j)) := by
  rw [List.getElem?_cons_succ]
  simp only [cellsT, List.getElem?_map]
  rw [List.getElem?_range (by omega)]
  simp only [Option.map_some, cellT_at hi hj]
theorem cellsT_put {T : Tab} {v : Value} {x i j : Nat} (hx : x < 6) (hi : i < 11) (hj : j < 11) : (v :: cellsT T).set (x * 121 + i * 11 + j + 1) (.bool true) = v :: cellsT (T.put x i j) := by
  rw [List.set_cons_succ]
  congr 1
  refine List.ext_getElem? fun p => ?_
  rw [List.getElem?_set]
  by_cases hp : x * 121 + i * 11 + j = p
  · subst hp
    rw [if_pos rfl, if_pos (by rw [cellsT_length]; omega)]
    simp only [cellsT, List.getElem?_map]
    rw [List.getElem?_range (by omega)]
    simp only [Option.map_some, cellT_at hi hj]
    simp [Tab.put]
  · rw [if_neg hp]
    simp only [cellsT, List.getElem?_map]
    by_cases hlt : p < 726
    · rw [List.getElem?_range hlt]
      simp only [Option.map_some, cellT, Tab.put]
      have : ¬ (p / 121 = x ∧ p / 11 % 11 = i ∧ p % 11 = j) := by omega
      rw [if_neg this]
    · rw [List.getElem?_eq_none (by simp; omega)]
      rfl
theorem take_put_drop {l : List Value} {m : Nat} {v : Value} (h : m < l.length) : l.take m ++ [v] ++ l.drop (m + 1) = l.set m v := by
  rw [List.set_eq_take_append_cons_drop, if_pos h]
  simp
end Go.Sh
namespace Go.Proofs.Ytegcjkhebecgbaa
open Go Go.Sh Go.RowKit

theorem sequence_c {ws : List Int} (hl : ws.length ≤ 10) (hw : ∀ t ∈ ws, 0 ≤ t ∧ t ≤ 100) : ∀ (right : List Int) {w : World} {b : Nat} {X Y : Option Addr} {cx cy : Nat} {T : Tab} {i j : Nat} {k : Value → World → Prop}, Box w b (.slice X ws.length cx :: cellsT T) 124 → Ints w X ws → Ints w Y right → right.length ≤ cy → (∀ x ∈ right, x < 6 ∧ -100 ≤ x) → i ≤ j → j ≤ ws.length → k (.bool (fitsT T ws right i j)) w →
    CallK Try.prog 155 [ptrv b, .slice Y right.length cy, .int .i64 i, .int .i64 j] k w := by
  intro right
  induction right with
  | nil =>
    intro w b X Y cx cy T i j k hB hX hY hcy hr hi hj hk
    refine enter155 ?_
    unfold S155
    simp only [go_sem, List.length_nil]
    simp only [Int.natCast_zero, decide_true, go_sem, Nat.reduceEqDiff, Int.natCast_inj]
    exact hk
  | cons x right ih =>
    intro w b X Y cx cy T i j k hB hX hY hcy hr hi hj hk
    refine enter155 ?_
    unfold S155
    simp only [go_sem, List.length_cons]
    simp only [show ¬ (((right.length + 1 : Nat) : Int) = 0) from by omega, decide_false, go_sem, Nat.reduceEqDiff]
    have hx := hr x (List.mem_cons_self ..)
    have hr' : ∀ y ∈ right, y < 6 ∧ -100 ≤ y := fun y hy => hr y (List.mem_cons_of_mem _ hy)
    simp only [List.length_cons] at hcy
    have hY' : Ints w (sub Y 1 cy 1) right := by
      have := hY.sub (l := 1) (c := cy) (by simp) (by simp; omega) (right.length)
      simpa using this
    rw [ix27_0 (fun _ => hY.ptr (by simp)) (by omega), ld3 (hY.cell 0 (by simp))]
    simp only [List.getD_cons_zero, go_sem, Nat.reduceEqDiff]
    by_cases hneg : x < 0
    · simp only [hneg, decide_true, go_sem, Nat.reduceEqDiff]
      rw [fits_tok hneg] at hk
      by_cases hij : i < j
      case neg =>
        simp only [show ¬ ((i : Int) < j) from by omega, decide_false, go_sem, Nat.reduceEqDiff]
        simpa only [hij, decide_false, Bool.false_and] using hk
      simp only [show ((i : Int) < j) from by omega, decide_true, go_sem, Nat.reduceEqDiff]
      rw [decide_eq_true hij, Bool.true_and] at hk
      rw [ldB27 hB rfl, ixn27 hX.ptr (by omega), ld3 (hX.cell i (by omega))]
      refine symbolOf_c ?_
      have hwi := hw _ (getD_mem (show i < ws.length by omega))
      rw [i64_of (by omega) (by omega)]
      simp only [go_sem, Nat.reduceEqDiff]
      by_cases he : ws.getD i 0 = -1 - x
      case neg =>
        simp only [show ¬ (-1 - ws.getD i 0 = x) from by omega, decide_false, go_sem, Nat.reduceEqDiff]
        simpa only [he, decide_false, Bool.false_and] using hk
      simp only [show (-1 - ws.getD i 0 = x) from by omega, decide_true, go_sem, Nat.reduceEqDiff]
      rw [decide_eq_true he, Bool.true_and] at hk
      rw [sll27 (by decide) (by omega), i64_of (by omega) (by omega)]
      rw [show (1 : Int).toNat = 1 from rfl, Nat.add_sub_cancel]
      refine ih (i := i + 1) hB hX hY' (by omega) hr' (by omega) hj ?_
      exact hk
    · simp only [hneg, decide_false, go_sem, Nat.reduceEqDiff]
      rw [fits_non hneg] at hk
      obtain ⟨x, rfl⟩ : ∃ x' : Nat, x = x' := ⟨x.toNat, by omega⟩
      rw [Int.toNat_natCast] at hk
      refine loop_to (j + 1) i (fun m f w' => i ≤ m ∧ m ≤ j + 1 ∧ f 10 = .int .i64 m ∧ (∀ m', i ≤ m' → m' < m → (T x i m' && fitsT T ws right m' j) = false) ∧ w' = w) ⟨Nat.le_refl _, by omega, rfl, fun m' h1 h2 => by omega, rfl⟩ ?_
      rintro m f w' N hag ⟨hm1, hm2, h10, hno, rfl⟩ hN
      have f0 : f 0 = ptrv b := hag 0 (by decide)
      have f1 : f 1 = .slice Y (right.length + 1) cy := hag 1 (by decide)
      have f2 : f 2 = .int .i64 i := hag 2 (by decide)
      have f3 : f 3 = .int .i64 j := hag 3 (by decide)
      have f9 : f 9 = .int .i64 (x : Nat) := hag 9 (by decide)
      simp only [f0, f1, f2, f3, f9, h10, go_sem, Nat.reduceEqDiff]
      by_cases hle : m ≤ j
      case neg =>
        simp only [show ¬ ((m : Int) ≤ j) from by omega, decide_false, go_sem, Nat.reduceEqDiff]
        rw [any_upto (fun m' h1 h2 => hno m' h1 (by omega))] at hk
        exact hk
      simp only [show ((m : Int) ≤ j) from by omega, decide_true, go_sem, Nat.reduceEqDiff]
      rw [ixa122 (by omega) (by omega), ixa121 (by omega) (by omega), ixa120 (by omega) (by omega)]
      simp only [Int.toNat_natCast, go_sem, Nat.reduceEqDiff]
      rw [ldB4 (off := 0 + 1 + x * 121 + i * 11 + m) hB (by rw [show 0 + 1 + x * 121 + i * 11 + m = x * 121 + i * 11 + m + 1 from by omega]; exact cellsT_at (by omega) (by omega) (by omega))]
      cases hs : T x i m
      · simp only [go_sem, Nat.reduceEqDiff]
        rw [i64_of (by omega) (by omega)]
        exact hN _ _ (by omega) ⟨by omega, by omega, rfl, fun m' h1 h2 => by
          by_cases e : m' = m
          · rw [e, hs, Bool.false_and]
          · exact hno m' h1 (by omega), rfl⟩
      · simp only [go_sem, Nat.reduceEqDiff]
        rw [sll27 (by decide) (by omega)]
        rw [show (1 : Int).toNat = 1 from rfl, Nat.add_sub_cancel]
        refine ih hB hX hY' (by omega) hr' (by omega) hj ?_
        cases hf : fitsT T ws right m j
        · simp only [go_sem, Nat.reduceEqDiff]
          rw [i64_of (by omega) (by omega)]
          exact hN _ _ (by omega) ⟨by omega, by omega, rfl, fun m' h1 h2 => by
            by_cases e : m' = m
            · rw [e, hf, Bool.and_false]
            · exact hno m' h1 (by omega), rfl⟩
        · simp only [go_sem, Nat.reduceEqDiff]
          rw [any_at hm1 hle (by rw [hs, hf]; rfl)] at hk
          exact hk
end Go.Proofs.Ytegcjkhebecgbaa

/- Contracts: the reference's table of what derives what. -/
set_option linter.unusedVariables false
set_option linter.unusedSimpArgs false
set_option maxRecDepth 100000
namespace Go.Sh
open Go
theorem madeCells_one (v : Value) (n : Nat) : (madeCells #[v] (n * 1)).toList = List.replicate n v := by
  rw [Nat.mul_one]
  refine List.ext_getElem? fun i => ?_
  unfold madeCells
  by_cases h : i < n
  · simp [h, Nat.mod_one]
  · rw [List.getElem?_eq_none (by simp; omega), List.getElem?_eq_none (by simp; omega)]
theorem rowB_none (n x : Nat) : rowB noTab n x = List.replicate (n * n) (.bool false) := by
  refine List.ext_getElem? fun i => ?_
  by_cases h : i < n * n
  · simp [rowB, h, noTab]
  · rw [List.getElem?_eq_none (by rw [rowB_length]; omega), List.getElem?_eq_none (by simp; omega)]
theorem set_td {α : Type} {xs ys : List α} {i : Nat} {a : α} (h : i < ys.length) (hl : xs.length = ys.length) (ha : xs[i]? = some a) : (xs.take i ++ ys.drop i).set i a = xs.take (i + 1) ++ ys.drop (i + 1) := by
  have hi : i < xs.length := by omega
  obtain rfl : xs[i] = a := by simpa [hi] using ha
  rw [List.take_succ_eq_append_getElem hi, List.set_append_right _ _ (by simp; omega)]
  rw [show i - (xs.take i).length = 0 from by simp; omega, List.drop_eq_getElem_cons h, List.set_cons_zero, List.append_assoc]
  rfl
def tabSt (rs : List RuleL) (ws : List Int) (s : Tab × Bool) : Prop := if s.2 = true then ∀ U, Span rs ws s.1 U → Span rs ws noTab U else Span rs ws noTab s.1
theorem tabSt_next {rs : List RuleL} {ws : List Int} {T : Tab} (h : tabSt rs ws (T, true)) : tabSt rs ws (passT rs ws (T, false)) := by
  unfold tabSt at h ⊢
  rw [if_pos rfl] at h
  cases hc : (passT rs ws (T, false)).2
  · rw [if_neg (by decide)]
    exact h _ (.done hc)
  · rw [if_pos rfl]
    exact fun U hU => h U (.more hc hU)
theorem good_right {g : Gram} (hg : goodG g = true) {q : Nat} (hq : q < g.rules.length) : ∀ x ∈ (rul g.rules q).2, x < g.nons ∧ -100 ≤ x := fun x hx => by
  obtain ⟨i, hi, rfl⟩ := List.getElem_of_mem hx
  have := good_symb hg hq hi
  rw [List.getD_eq_getElem?_getD, List.getElem?_eq_getElem hi] at this
  simp only [Option.getD_some] at this
  omega
theorem good_left {g : Gram} (hg : goodG g = true) {q : Nat} (hq : q < g.rules.length) : 0 ≤ (rul g.rules q).1 ∧ (rul g.rules q).1 ≤ g.nons - 1 := by
  simp only [goodG, Bool.and_eq_true, List.all_eq_true] at hg
  have h1 := hg.2 q (List.mem_range.2 hq)
  simp only [goodR, Bool.and_eq_true, inB, decide_eq_true_eq] at h1
  exact h1.1.1.1
theorem good_left6 {g : Gram} (hg : goodG g = true) : ∀ r ∈ g.rules, r.1.toNat < 6 := fun r hr => by
  obtain ⟨i, hi, rfl⟩ := List.getElem_of_mem hr
  have := good_left hg hi
  have := good_nons hg
  rw [rul_eq hi] at *
  omega
end Go.Sh
namespace Go.Proofs.Ytegcjkhebecgbaa
open Go Go.Sh Go.RowKit
theorem inf4' : Inf Try.prog 4 (.bool false) 1 1 := inf_of (by kernel_rfl)

theorem l4Table_c {F : Nat → Prop} {w : World} {v : Value} {gm : Gram} {X : Option Addr} {cx n0 : Nat} {ws : List Int} (hv : GramV F w v gm) (hg : goodG gm = true) (hX : Ints w X ws) (hn : n0 = ws.length) (hl : ws.length ≤ 10) {k : Value → World → Prop}
    (hk : ∀ w' U c nons, Gr w w' → gm.nons = (nons : Nat) → TabS w' U nons (ws.length + 1) (spanT gm.rules ws) → k (.slice U nons c) w') :
    CallK Try.prog 162 [v, .slice X n0 cx] k w := by
  subst hn
  obtain ⟨Y, cy, rfl, hc, hy⟩ := hv
  have hn6 := good_nons hg
  have hr16 := good_len hg
  have hleft6 := good_left6 hg
  obtain ⟨nons, hnn⟩ : ∃ n : Nat, gm.nons = n := ⟨gm.nons.toNat, by omega⟩
  refine enter162 ?_
  unfold S162
  have H := Apt.nil w
  refine boxH H fun b1 w1 H => ?_
  rw [hnn] at H
  simp only [go_sem, Nat.reduceEqDiff]
  rw [ldB3 (H.box 0 rfl) rfl]
  rw [i64_of (by omega) (by omega)]
  refine makeH H u134 inf136 (by omega) (by omega) fun b2 w2 H => ?_
  rw [show (Value.slice none 0 0).cells = #[.slice none 0 0] from rfl, madeCells_one] at H
  have H := H.nilVV 1 4 rfl
  simp only [List.nil_append, List.cons_append, List.set_cons_zero, List.set_cons_succ] at H
  simp only [go_sem, Nat.reduceEqDiff]
  generalize hN : ws.length + 1 = n at *
  have hNi : ((ws.length : Int) + 1) = (n : Int) := by omega
  rw [hNi]
  have hnn11 : n * n ≤ 11 * 11 := Nat.mul_le_mul (by omega) (by omega)
  have hrl : (rowsB noTab nons n).length = nons := rowsB_length _ _ _
  refine loop_to nons 0 (fun i f w' => i ≤ nons ∧ f 21 = .int .i64 i ∧ ∃ (ps : Nat → Option Addr × Nat), Apt w w' [bx b1 [.int .i64 nons, .int .i64 gm.toks, .slice Y gm.rules.length cy] 26, vvi 136 4 (some ⟨b2, 0, none⟩) nons ((rowsB noTab nons n).take i ++ (List.replicate nons []).drop i) ps])
    ⟨Nat.zero_le _, rfl, _, by rw [List.take_zero, List.drop_zero, List.nil_append]; exact H⟩ ?_
  rintro i f w3 N hag ⟨hi, h21, ps, H⟩ hN'
  have f20 : f 20 = .int .i64 nons := hag 20 (by decide)
  have f5 : f 5 = .int .i64 n := hag 5 (by decide)
  have f6 : f 6 = .slice (some ⟨b2, 0, none⟩) nons nons := hag 6 (by decide)
  have f2 : f 2 = ptrv b1 := hag 2 (by decide)
  have f1 : f 1 = .slice X ws.length cx := hag 1 (by decide)
  simp only [f20, f5, f6, h21, go_sem, Nat.reduceEqDiff]
  by_cases hlt : i < nons
  · simp only [show (i : Int) < nons from by omega, decide_true, go_sem, Nat.reduceEqDiff]
    rw [show (n : Int) * (n : Int) = ((n * n : Nat) : Int) from by push_cast; rfl, i64_of (by omega) (by omega)]
    refine makeH H (n := n * n) u136 inf4' (by omega) (by omega) fun b3 w4 H => ?_
    rw [show (Value.bool false).cells = #[.bool false] from rfl, madeCells_one, ← rowB_none n i] at H
    rw [ixn134 (fun _ => rfl) hlt]
    refine setRowVV H 1 2 i (by decide) rfl rfl (by rw [rowB_length]) (by decide) sz136 (by simp; omega) fun w5 ps' H => ?_
    have H := H.erase 2
    rw [set_td (by simp; omega) (by simp [hrl]) (by simp [rowsB, hlt])] at H
    rw [i64_of (by omega) (by omega)]
    exact hN' _ _ hlt ⟨hlt, rfl, ps', H⟩
  have hin : i = nons := by omega
  simp only [show ¬ ((i : Int) < nons) from by omega, decide_false, go_sem, Nat.reduceEqDiff]
  rw [hin, List.drop_eq_nil_of_le (by simp), List.append_nil, List.take_of_length_le (by rw [hrl]; exact Nat.le_refl _)] at H
  clear hN' hin h21 hi hlt
  refine loop_ghost (fun (s : Tab × Bool) f w' => tabSt gm.rules ws s ∧ f 8 = .bool s.2 ∧ ∃ (ps : Nat → Option Addr × Nat), Apt w w' [bx b1 [.int .i64 nons, .int .i64 gm.toks, .slice Y gm.rules.length cy] 26, vvi 136 4 (some ⟨b2, 0, none⟩) nons (rowsB s.1 nons n) ps]) (fun s => if s.2 = true then openT s.1 + 1 else 0) (noTab, true)
    ⟨by unfold tabSt; rw [if_pos rfl]; exact fun U h => h, rfl, ps, H⟩ ?_
  rintro ⟨T, more⟩ f7 w6 N2 hag2 ⟨hst, h8, ps, H⟩ hN2
  have f2' : f7 2 = ptrv b1 := (hag2 2 (by decide)).trans f2
  have f6' : f7 6 = .slice (some ⟨b2, 0, none⟩) nons nons := (hag2 6 (by decide)).trans f6
  have f5' : f7 5 = .int .i64 n := (hag2 5 (by decide)).trans f5
  have f1' : f7 1 = .slice X ws.length cx := (hag2 1 (by decide)).trans f1
  simp only [h8, f2', go_sem, Nat.reduceEqDiff]
  cases more
  · simp only [go_sem, Nat.reduceEqDiff]
    rw [f6']
    have hsp : T = spanT gm.rules ws := by
      unfold tabSt at hst
      rw [if_neg Bool.false_ne_true] at hst
      exact hst.eq
    rw [← hsp] at hk
    exact hk _ _ nons _ H.gr hnn ((H.vv 1 rfl).tab (by omega))
  simp only [go_sem, Nat.reduceEqDiff]
  rw [ldB24 (H.box 0 rfl) rfl]
  simp only [go_sem, Nat.reduceEqDiff]
  refine loop_to gm.rules.length 0 (fun q f w' => q ≤ gm.rules.length ∧ f 36 = .int .i64 q ∧ f 8 = .bool ((gm.rules.take q).foldl (ruleT ws) (T, false)).2 ∧ ∃ (ps : Nat → Option Addr × Nat), Apt w w' [bx b1 [.int .i64 nons, .int .i64 gm.toks, .slice Y gm.rules.length cy] 26, vvi 136 4 (some ⟨b2, 0, none⟩) nons (rowsB ((gm.rules.take q).foldl (ruleT ws) (T, false)).1 nons n) ps])
    ⟨Nat.zero_le _, rfl, rfl, ps, H⟩ ?_
  rintro q g1 w7 N3 hag3 ⟨hq, h36, h8', ps, H⟩ hN3
  have e34 : g1 34 = .slice Y gm.rules.length cy := hag3 34 (by decide)
  have e35 : g1 35 = .int .i64 gm.rules.length := hag3 35 (by decide)
  have e5 : g1 5 = .int .i64 n := (hag3 5 (by decide)).trans f5'
  have e6 : g1 6 = .slice (some ⟨b2, 0, none⟩) nons nons := (hag3 6 (by decide)).trans f6'
  have e1 : g1 1 = .slice X ws.length cx := (hag3 1 (by decide)).trans f1'
  simp only [e34, e35, h36, go_sem, Nat.reduceEqDiff]
  by_cases hlq : q < gm.rules.length
  case neg =>
    simp only [show ¬ ((q : Int) < gm.rules.length) from by omega, decide_false, go_sem, Nat.reduceEqDiff]
    rw [List.take_of_length_le (by omega)] at h8' H
    have hinc := passT_inc hleft6 hl (T, false)
    refine hN2 (passT gm.rules ws (T, false)) _ _ ⟨tabSt_next hst, h8', ps, H⟩ ?_
    rw [if_pos rfl]
    rcases hinc with he | ⟨h1, h2⟩
    · rw [he, if_neg Bool.false_ne_true]
      omega
    · rw [if_pos h1]
      dsimp only at h2 ⊢
      omega
  simp only [show ((q : Int) < gm.rules.length) from by omega, decide_true, go_sem, Nat.reduceEqDiff]
  obtain ⟨Z, cz, t1, t2, t3, t4⟩ := hy.row q hlq
  have hleft := good_left hg hlq
  have hright := good_right hg hlq
  have hR4 := good_rule hg q hlq
  generalize hr : rul gm.rules q = r at *
  obtain ⟨xl, hxl⟩ : ∃ x : Nat, r.1 = x := ⟨r.1.toNat, by omega⟩
  rw [hxl] at t1 hleft
  rw [ixn24 hy.ptr hlq, ld_agg agg33 sz33 (cs := [.int .i64 xl, .slice Z r.2.length cz]) rfl (fun j hj => by
    match j, hj with
    | 0, _ => rw [add_add, Nat.add_zero]; exact H.gr.cell t1
    | 1, _ => rw [add_add]; exact H.gr.cell t2)]
  refine allocH H inf33 fun b3 w8 H => ?_
  refine storeH H 2 rfl sz33 rfl rfl rfl fun w9 H => ?_
  simp only [List.nil_append, List.cons_append, List.set_cons_zero, List.set_cons_succ] at H
  generalize hs0 : (gm.rules.take q).foldl (ruleT ws) (T, false) = s0 at *
  refine loop_to n 0 (fun a f w' => a ≤ n ∧ f 11 = .int .i64 a ∧ f 8 = .bool ((List.range a).foldl (rowT ws r) s0).2 ∧ ∃ (ps : Nat → Option Addr × Nat), Apt w w' [bx b1 [.int .i64 nons, .int .i64 gm.toks, .slice Y gm.rules.length cy] 26, vvi 136 4 (some ⟨b2, 0, none⟩) nons (rowsB ((List.range a).foldl (rowT ws r) s0).1 nons n) ps, bx b3 [.int .i64 xl, .slice Z r.2.length cz] 33])
    ⟨Nat.zero_le _, rfl, h8', ps, H⟩ ?_
  rintro a g2 w10 N4 hag4 ⟨ha, h11, h8a, ps, H⟩ hN4
  have k5 : g2 5 = .int .i64 n := (hag4 5 (by decide)).trans e5
  have k6 : g2 6 = .slice (some ⟨b2, 0, none⟩) nons nons := (hag4 6 (by decide)).trans e6
  have k1 : g2 1 = .slice X ws.length cx := (hag4 1 (by decide)).trans e1
  have k10 : g2 10 = ptrv b3 := hag4 10 (by decide)
  have k36 : g2 36 = .int .i64 q := (hag4 36 (by decide)).trans h36
  simp only [k5, h11, k36, go_sem, Nat.reduceEqDiff]
  by_cases hla : a < n
  case neg =>
    simp only [show ¬ ((a : Int) < n) from by omega, decide_false, go_sem, Nat.reduceEqDiff]
    rw [i64_of (by omega) (by omega)]
    have han : a = n := by omega
    rw [han] at h8a H
    have hstep : (gm.rules.take (q + 1)).foldl (ruleT ws) (T, false) = (List.range n).foldl (rowT ws r) s0 := by
      rw [foldl_take _ _ _ hlq, hs0, hr, ← hN]
      rfl
    refine hN3 _ _ hlq ⟨hlq, rfl, ?_, ps, ?_⟩
    · rw [hstep]
      exact h8a
    · rw [hstep]
      exact H.take 2
  simp only [show ((a : Int) < n) from by omega, decide_true, go_sem, Nat.reduceEqDiff]
  generalize hs1 : (List.range a).foldl (rowT ws r) s0 = s1 at *
  refine loop_to n a (fun b f w' => a ≤ b ∧ b ≤ n ∧ f 12 = .int .i64 b ∧ f 8 = .bool ((List.range' a (b - a)).foldl (Sh.stepT ws r a) s1).2 ∧ ∃ (ps : Nat → Option Addr × Nat), Apt w w' [bx b1 [.int .i64 nons, .int .i64 gm.toks, .slice Y gm.rules.length cy] 26, vvi 136 4 (some ⟨b2, 0, none⟩) nons (rowsB ((List.range' a (b - a)).foldl (Sh.stepT ws r a) s1).1 nons n) ps, bx b3 [.int .i64 xl, .slice Z r.2.length cz] 33])
    ⟨Nat.le_refl _, by omega, rfl, by rw [Nat.sub_self]; exact h8a, ps, by rw [Nat.sub_self]; exact H⟩ ?_
  rintro b g3 w11 N5 hag5 ⟨hb1, hb2, h12, h8b, ps, H⟩ hN5
  have m5 : g3 5 = .int .i64 n := (hag5 5 (by decide)).trans k5
  have m6 : g3 6 = .slice (some ⟨b2, 0, none⟩) nons nons := (hag5 6 (by decide)).trans k6
  have m1 : g3 1 = .slice X ws.length cx := (hag5 1 (by decide)).trans k1
  have m10 : g3 10 = ptrv b3 := (hag5 10 (by decide)).trans k10
  have m11 : g3 11 = .int .i64 a := (hag5 11 (by decide)).trans h11
  simp only [m5, m6, m1, m10, m11, h12, go_sem, Nat.reduceEqDiff]
  by_cases hlb : b < n
  case neg =>
    simp only [show ¬ ((b : Int) < n) from by omega, decide_false, go_sem, Nat.reduceEqDiff]
    rw [i64_of (by omega) (by omega)]
    have hbn : b = n := by omega
    rw [hbn] at h8b H
    have hstep : (List.range (a + 1)).foldl (rowT ws r) s0 = (List.range' a (n - a)).foldl (Sh.stepT ws r a) s1 := by
      rw [foldl_range, hs1, ← hN]
      rfl
    refine hN4 _ _ hla ⟨hla, rfl, ?_, ps, ?_⟩
    · rw [hstep]
      exact h8b
    · rw [hstep]
      exact H
  simp only [show ((b : Int) < n) from by omega, decide_true, go_sem, Nat.reduceEqDiff]
  have hstep : (List.range' a (b + 1 - a)).foldl (Sh.stepT ws r a) s1 = Sh.stepT ws r a ((List.range' a (b - a)).foldl (Sh.stepT ws r a) s1) b := by
    rw [show b + 1 - a = b - a + 1 from by omega, foldl_range', show a + (b - a) = b from by omega]
  generalize hs2 : (List.range' a (b - a)).foldl (Sh.stepT ws r a) s1 = s2 at *
  have hxn : xl < nons := by omega
  have hab := place_lt (n := n) (show a < n by omega) hlb
  have hT := (H.vv 1 rfl).tab (by omega)
  have hxr : xl < (rowsB s2.1 nons n).length := by rw [rowsB_length]; exact hxn
  have hcell := (H.vv 1 rfl).cell hxr
  have hown := (H.vv 1 rfl).own xl hxr
  rw [vls_rowsB hxn, rowB_length] at hcell hown
  have hR0 : (ps xl).1 = some (ad (ps xl).1) := hown.ptr (by omega)
  have hab' : (a : Int) * (n : Int) = ((a * n : Nat) : Int) := by push_cast; rfl
  have hidx : IntKind.i64.wrap (IntKind.i64.wrap ((a : Int) * (n : Int)) + (b : Int)) = ((a * n + b : Nat) : Int) := by
    rw [hab', i64_of (n := ((a * n : Nat) : Int)) (by omega) (by omega), i64_of (by omega) (by omega)]
    rfl
  rw [hidx, ldB3 (H.box 2 rfl) rfl]
  refine rdi (ixn134 (fun _ => rfl) hxn) (rdi (ld136 hcell) (rdi (ixn136 (fun _ => hR0) hab) (rdi (ld4 (hown.src.cell _ _ (rowB_at hla hlb))) ?_)))
  simp only [go_sem, Nat.reduceEqDiff]
  have hstepT : Sh.stepT ws r a s2 b = if (!s2.1 xl a b && fitsT s2.1 ws r.2 a b) = true then (s2.1.put xl a b, true) else s2 := by
    unfold Sh.stepT
    rw [hxl, Int.toNat_natCast]
  have stay : Sh.stepT ws r a s2 b = s2 → ∀ f', f' 12 = .int .i64 (b + 1 : Nat) → f' 8 = .bool s2.2 → N5 f' w11 := fun he f' q12 q8 => hN5 f' w11 hlb ⟨by omega, hlb, q12, by rw [hstep, he]; exact q8, ps, by rw [hstep, he]; exact H⟩
  cases hc0 : s2.1 xl a b
  case true =>
    simp only [Bool.not_true, go_sem, Nat.reduceEqDiff]
    rw [i64_of (n := (b : Int) + 1) (by omega) (by omega)]
    exact stay (by rw [hstepT, hc0]; rfl) _ rfl h8b
  simp only [Bool.not_false, go_sem, Nat.reduceEqDiff]
  rw [ldB27 (H.box 2 rfl) rfl]
  rw [← hN] at hT
  refine l4Fits_c hl r.2 hT (hX.gr H.gr) (t4.is.gr H.gr) t3 (fun x hx => by have := hright x hx; omega) hb1 (by omega) ?_
  cases hft : fitsT s2.1 ws r.2 a b
  · simp only [go_sem, Nat.reduceEqDiff]
    rw [i64_of (n := (b : Int) + 1) (by omega) (by omega)]
    exact stay (by rw [hstepT, hc0, hft]; rfl) _ rfl h8b
  simp only [go_sem, Nat.reduceEqDiff]
  rw [ldB3 (H.box 2 rfl) rfl]
  refine rdi (ixn134 (fun _ => rfl) hxn) (rdi (ld136 hcell) (rdi (ixn136 (fun _ => hR0) hab) ?_))
  refine storeVV H 1 xl (m := a * n + b) rfl (by decide) sz4 rfl rfl hxr (by rw [vls_rowsB hxn, rowB_length]; exact hab) fun w12 H => ?_
  rw [rowsB_put hxn hla hlb] at H
  rw [i64_of (n := (b : Int) + 1) (by omega) (by omega)]
  refine hN5 _ _ hlb ⟨by omega, hlb, rfl, ?_, ps, ?_⟩
  · rw [hstep, hstepT, hc0, hft]
    rfl
  · rw [hstep, hstepT, hc0, hft]
    exact H
theorem l4In_c {F : Nat → Prop} {w : World} {v : Value} {gm : Gram} {X : Option Addr} {cx n0 : Nat} {ws : List Int} (hv : GramV F w v gm) (hg : goodG gm = true) (hX : Ints w X ws) (hn : n0 = ws.length) (hl : ws.length ≤ 10) {k : Value → World → Prop}
    (hk : ∀ w', Gr w w' → k (.bool (inL gm.rules ws)) w') : CallK Try.prog 153 [v, .int .i64 0, .slice X n0 cx] k w := by
  subst hn
  obtain ⟨Y, cy, rfl, hc, hy⟩ := hv
  have hn6 := good_nons hg
  refine enter153 ?_
  unfold S153
  have H := Apt.nil w
  refine boxH H fun b1 w1 H => ?_
  rw [ldB_agg agg26 sz26 rfl (H.box 0 rfl)]
  refine l4Table_c (gm := gm) ⟨Y, cy, rfl, hc, hy.gr H.gr⟩ hg (hX.gr H.gr) rfl hl fun w2 U c nons g2 hnn hT => ?_
  have hns : 0 < nons := by omega
  obtain ⟨R, cr, h1, h2, h3⟩ := hT.row 0 hns
  have := h3 0 ws.length (by omega) (by omega)
  rw [Nat.zero_mul, Nat.zero_add] at this
  rw [ix134_0 hT.ptr hns, ld136 h1]
  simp only [go_sem, Nat.reduceEqDiff]
  rw [ixn136 (fun _ => h2) (Nat.lt_of_lt_of_le (Nat.lt_succ_self _) (Nat.le_mul_of_pos_left _ (by omega))), ld4 this]
  exact hk _ (gr_trans H.gr g2)
end Go.Proofs.Ytegcjkhebecgbaa

/- Contract: the program's table of what derives what. -/
set_option linter.unusedVariables false
set_option linter.unusedSimpArgs false
set_option maxRecDepth 100000
namespace Go.Sh
open Go
theorem map_const_range (n : Nat) (v : Value) : (List.range n).map (fun _ => v) = List.replicate n v := by
  rw [List.map_const', List.length_range]
theorem cellsT_none : cellsT noTab = List.replicate 726 (.bool false) := map_const_range 726 (.bool false)
theorem fill_one {place : Nat → Option (Nat × Nat)} {cells : Array Value} {v : Value} (hp : place 0 = some (0, 1)) (hv : v.cells = #[v]) (h0 : 0 < cells.size) : Instr.fill place cells [(0, v)] = some (cells.setIfInBounds 0 v) := by
  simp only [Instr.fill, hp, hv]
  have e : (decide ((#[v] : Array Value).size ≠ 1) || decide (0 + (#[v] : Array Value).size > cells.size)) = false := by
    rw [Bool.or_eq_false_iff]
    exact ⟨by simp, decide_eq_false (by show ¬ (0 + 1 > cells.size); omega)⟩
  rw [if_neg (by rw [e]; exact Bool.false_ne_true)]
  simp
theorem set_head {a v : Value} {R : Array Value} : (#[a] ++ R).setIfInBounds 0 v = #[v] ++ R := by
  apply Array.ext'
  simp
theorem agg_pos (v : Value) (R : Array Value) : 0 < (Value.agg (#[v] ++ R)).cells.size := by
  show 0 < (#[v] ++ R).size
  simp
  omega
theorem agg_list (v : Value) (R : Array Value) : (Value.agg (#[v] ++ R)).cells.toList = v :: R.toList := by
  show (#[v] ++ R).toList = _
  simp
theorem rep_list (n : Nat) (v : Value) : (Array.replicate n v).toList = List.replicate n v := Array.toList_replicate
end Go.Sh
namespace Go.Proofs.Ytegcjkhebecgbaa
open Go Go.Sh Go.RowKit
theorem inf124' : Inf Try.prog 124 (.agg (#[.slice none 0 0] ++ Array.replicate 726 (.bool false))) 727 752 := inf_of (by kernel_rfl)
theorem sz122' : szOf Try.prog 122 726 := szOf_of (by kernel_rfl)
theorem bd124 (X : Option Addr) (n c : Nat) : ∃ z : Value, (∀ (S : WS) (k : Value → Prop), Rd Try.prog S (sBuild 124 [(0, .slice X n c)]) k = k z) ∧ z.cells.toList = .slice X n c :: cellsT noTab := by
  refine ⟨.agg (#[.slice X n c] ++ Array.replicate 726 (.bool false)), fun S k => ?_, ?_⟩
  · refine rd_buildN (ps := [(0, 1), (1, 726)]) Try.underlying124 inf124' ⟨⟨rfl, sz27⟩, ⟨rfl, sz122'⟩, trivial⟩ ((fill_one rfl rfl ?_).trans (congrArg some set_head))
    exact agg_pos _ _
  · rw [agg_list, cellsT_none]
    exact congrArg _ (rep_list _ _)

theorem spans_c {F : Nat → Prop} {w : World} {v : Value} {gm : Gram} {X : Option Addr} {cx n0 : Nat} {ws : List Int} (hv : GramV F w v gm) (hg : goodG gm = true) (hX : Ints w X ws) (hn : n0 = ws.length) (hl : ws.length ≤ 10) (hw : ∀ t ∈ ws, 0 ≤ t ∧ t ≤ 100) {k : Value → World → Prop}
    (hk : ∀ w' b, Apt w w' [bx b (.slice X ws.length cx :: cellsT (spanT gm.rules ws)) 124] → k (ptrv b) w') :
    CallK Try.prog 151 [v, .slice X n0 cx] k w := by
  subst hn
  obtain ⟨Y, cy, rfl, hc, hy⟩ := hv
  have hn6 := good_nons hg
  have hr16 := good_len hg
  have hleft6 := good_left6 hg
  refine enter151 ?_
  unfold S151
  have H := Apt.nil w
  refine boxH H fun b1 w1 H => ?_
  obtain ⟨z, hz1, hz2⟩ := bd124 X ws.length cx
  refine rdi (hz1 _ _) ?_
  refine boxH H fun b2 w2 H => ?_
  rw [hz2] at H
  simp only [List.nil_append, List.cons_append] at H
  refine loop_ghost (fun (s : Tab × Bool) f w' => tabSt gm.rules ws s ∧ f 6 = .bool s.2 ∧ Apt w w' [bx b1 [.int .i64 gm.nons, .int .i64 gm.toks, .slice Y gm.rules.length cy] 26, bx b2 (.slice X ws.length cx :: cellsT s.1) 124]) (fun s => if s.2 = true then openT s.1 + 1 else 0) (noTab, true)
    ⟨by unfold tabSt; rw [if_pos rfl]; exact fun U h => h, rfl, H⟩ ?_
  rintro ⟨T, more⟩ f7 w6 N2 hag2 ⟨hst, h8, H⟩ hN2
  have f2' : f7 2 = ptrv b1 := hag2 2 (by decide)
  have f5' : f7 5 = ptrv b2 := hag2 5 (by decide)
  have f1' : f7 1 = .slice X ws.length cx := hag2 1 (by decide)
  simp only [h8, f2', go_sem, Nat.reduceEqDiff]
  cases more
  · simp only [go_sem, Nat.reduceEqDiff]
    rw [f5']
    have hsp : T = spanT gm.rules ws := by
      unfold tabSt at hst
      rw [if_neg Bool.false_ne_true] at hst
      exact hst.eq
    rw [← hsp] at hk
    exact hk _ b2 (H.erase 0)
  simp only [go_sem, Nat.reduceEqDiff]
  rw [ldB24 (H.box 0 rfl) rfl]
  simp only [go_sem, Nat.reduceEqDiff]
  refine loop_to gm.rules.length 0 (fun q f w' => q ≤ gm.rules.length ∧ f 18 = .int .i64 q ∧ f 6 = .bool ((gm.rules.take q).foldl (ruleT ws) (T, false)).2 ∧ Apt w w' [bx b1 [.int .i64 gm.nons, .int .i64 gm.toks, .slice Y gm.rules.length cy] 26, bx b2 (.slice X ws.length cx :: cellsT ((gm.rules.take q).foldl (ruleT ws) (T, false)).1) 124])
    ⟨Nat.zero_le _, rfl, rfl, H⟩ ?_
  rintro q g1 w7 N3 hag3 ⟨hq, h36, h8', H⟩ hN3
  have e34 : g1 16 = .slice Y gm.rules.length cy := hag3 16 (by decide)
  have e35 : g1 17 = .int .i64 gm.rules.length := hag3 17 (by decide)
  have e5 : g1 5 = ptrv b2 := (hag3 5 (by decide)).trans f5'
  have e1 : g1 1 = .slice X ws.length cx := (hag3 1 (by decide)).trans f1'
  simp only [e34, e35, e1, h36, go_sem, Nat.reduceEqDiff]
  by_cases hlq : q < gm.rules.length
  case neg =>
    simp only [show ¬ ((q : Int) < gm.rules.length) from by omega, decide_false, go_sem, Nat.reduceEqDiff]
    rw [List.take_of_length_le (by omega)] at h8' H
    have hinc := passT_inc hleft6 hl (T, false)
    refine hN2 (passT gm.rules ws (T, false)) _ _ ⟨tabSt_next hst, h8', H⟩ ?_
    rw [if_pos rfl]
    rcases hinc with he | ⟨h1, h2⟩
    · rw [he, if_neg Bool.false_ne_true]
      omega
    · rw [if_pos h1]
      dsimp only at h2 ⊢
      omega
  simp only [show ((q : Int) < gm.rules.length) from by omega, decide_true, go_sem, Nat.reduceEqDiff]
  obtain ⟨Z, cz, t1, t2, t3, t4⟩ := hy.row q hlq
  have hleft := good_left hg hlq
  have hright := good_right hg hlq
  have hR4 := good_rule hg q hlq
  generalize hr : rul gm.rules q = r at *
  obtain ⟨xl, hxl⟩ : ∃ x : Nat, r.1 = x := ⟨r.1.toNat, by omega⟩
  rw [hxl] at t1 hleft
  rw [ixn24 hy.ptr hlq, ld_agg agg33 sz33 (cs := [.int .i64 xl, .slice Z r.2.length cz]) rfl (fun j hj => by
    match j, hj with
    | 0, _ => rw [add_add, Nat.add_zero]; exact H.gr.cell t1
    | 1, _ => rw [add_add]; exact H.gr.cell t2)]
  refine allocH H inf33 fun b3 w8 H => ?_
  refine storeH H 2 rfl sz33 rfl rfl rfl fun w9 H => ?_
  simp only [List.nil_append, List.cons_append, List.set_cons_zero, List.set_cons_succ] at H
  generalize hN : ws.length + 1 = n at *
  have hNi : ((ws.length : Int) + 1) = (n : Int) := by omega
  rw [hNi, i64_of (n := (n : Int)) (by omega) (by omega)]
  generalize hs0 : (gm.rules.take q).foldl (ruleT ws) (T, false) = s0 at *
  refine loop_to n 0 (fun a f w' => a ≤ n ∧ f 25 = .int .i64 a ∧ f 6 = .bool ((List.range a).foldl (rowT ws r) s0).2 ∧ Apt w w' [bx b1 [.int .i64 gm.nons, .int .i64 gm.toks, .slice Y gm.rules.length cy] 26, bx b2 (.slice X ws.length cx :: cellsT ((List.range a).foldl (rowT ws r) s0).1) 124, bx b3 [.int .i64 xl, .slice Z r.2.length cz] 33])
    ⟨Nat.zero_le _, rfl, h8', H⟩ ?_
  rintro a g2 w10 N4 hag4 ⟨ha, h11, h8a, H⟩ hN4
  have k24 : g2 24 = .int .i64 n := hag4 24 (by decide)
  have k5 : g2 5 = ptrv b2 := (hag4 5 (by decide)).trans e5
  have k1 : g2 1 = .slice X ws.length cx := (hag4 1 (by decide)).trans e1
  have k8 : g2 8 = ptrv b3 := hag4 8 (by decide)
  have k18 : g2 18 = .int .i64 q := (hag4 18 (by decide)).trans h36
  simp only [k24, h11, k18, go_sem, Nat.reduceEqDiff]
  by_cases hla : a < n
  case neg =>
    simp only [show ¬ ((a : Int) < n) from by omega, decide_false, go_sem, Nat.reduceEqDiff]
    rw [i64_of (by omega) (by omega)]
    have han : a = n := by omega
    rw [han] at h8a H
    have hstep : (gm.rules.take (q + 1)).foldl (ruleT ws) (T, false) = (List.range n).foldl (rowT ws r) s0 := by
      rw [foldl_take _ _ _ hlq, hs0, hr, ← hN]
      rfl
    refine hN3 _ _ hlq ⟨hlq, rfl, ?_, ?_⟩
    · rw [hstep]
      exact h8a
    · rw [hstep]
      exact H.take 2
  simp only [show ((a : Int) < n) from by omega, decide_true, go_sem, Nat.reduceEqDiff]
  generalize hs1 : (List.range a).foldl (rowT ws r) s0 = s1 at *
  refine loop_to n a (fun b f w' => a ≤ b ∧ b ≤ n ∧ f 10 = .int .i64 b ∧ f 6 = .bool ((List.range' a (b - a)).foldl (Sh.stepT ws r a) s1).2 ∧ Apt w w' [bx b1 [.int .i64 gm.nons, .int .i64 gm.toks, .slice Y gm.rules.length cy] 26, bx b2 (.slice X ws.length cx :: cellsT ((List.range' a (b - a)).foldl (Sh.stepT ws r a) s1).1) 124, bx b3 [.int .i64 xl, .slice Z r.2.length cz] 33])
    ⟨Nat.le_refl _, by omega, rfl, by rw [Nat.sub_self]; exact h8a, by rw [Nat.sub_self]; exact H⟩ ?_
  rintro b g3 w11 N5 hag5 ⟨hb1, hb2, h12, h8b, H⟩ hN5
  have m5 : g3 5 = ptrv b2 := (hag5 5 (by decide)).trans k5
  have m1 : g3 1 = .slice X ws.length cx := (hag5 1 (by decide)).trans k1
  have m8 : g3 8 = ptrv b3 := (hag5 8 (by decide)).trans k8
  have m9 : g3 9 = .int .i64 a := hag5 9 (by decide)
  have m25 : g3 25 = .int .i64 a := (hag5 25 (by decide)).trans h11
  simp only [m5, m1, m8, m9, m25, h12, go_sem, Nat.reduceEqDiff]
  by_cases hlb : b < n
  case neg =>
    simp only [show ¬ ((b : Int) ≤ ws.length) from by omega, decide_false, go_sem, Nat.reduceEqDiff]
    rw [i64_of (by omega) (by omega)]
    have hbn : b = n := by omega
    rw [hbn] at h8b H
    have hstep : (List.range (a + 1)).foldl (rowT ws r) s0 = (List.range' a (n - a)).foldl (Sh.stepT ws r a) s1 := by
      rw [foldl_range, hs1, ← hN]
      rfl
    refine hN4 _ _ hla ⟨hla, rfl, ?_, ?_⟩
    · rw [hstep]
      exact h8b
    · rw [hstep]
      exact H
  simp only [show ((b : Int) ≤ ws.length) from by omega, decide_true, go_sem, Nat.reduceEqDiff]
  have hstep : (List.range' a (b + 1 - a)).foldl (Sh.stepT ws r a) s1 = Sh.stepT ws r a ((List.range' a (b - a)).foldl (Sh.stepT ws r a) s1) b := by
    rw [show b + 1 - a = b - a + 1 from by omega, foldl_range', show a + (b - a) = b from by omega]
  generalize hs2 : (List.range' a (b - a)).foldl (Sh.stepT ws r a) s1 = s2 at *
  have hxn : xl < 6 := by omega
  have hstepT : Sh.stepT ws r a s2 b = if (!s2.1 xl a b && fitsT s2.1 ws r.2 a b) = true then (s2.1.put xl a b, true) else s2 := by
    unfold Sh.stepT
    rw [hxl, Int.toNat_natCast]
  have H := H.drew
  have stay : Sh.stepT ws r a s2 b = s2 → ∀ f', f' 10 = .int .i64 (b + 1 : Nat) → f' 6 = .bool s2.2 → N5 f' w11.drew := fun he f' q12 q8 => hN5 f' w11.drew hlb ⟨by omega, hlb, q12, by rw [hstep, he]; exact q8, by rw [hstep, he]; exact H⟩
  rw [ldB3 (H.box 2 rfl) rfl]
  rw [ixa122 (by omega) (by omega), ixa121 (by omega) (by omega), ixa120 (by omega) (by omega)]
  simp only [Int.toNat_natCast, go_sem, Nat.reduceEqDiff]
  have hoff : 0 + 1 + xl * 121 + a * 11 + b = xl * 121 + a * 11 + b + 1 := by omega
  rw [hoff, ldB4 (H.box 1 rfl) (cellsT_at hxn (by omega) (by omega))]
  simp only [go_sem, Nat.reduceEqDiff]
  cases hc0 : s2.1 xl a b
  case true =>
    simp only [Bool.not_true, go_sem, Nat.reduceEqDiff]
    rw [i64_of (n := (b : Int) + 1) (by omega) (by omega)]
    exact stay (by rw [hstepT, hc0]; rfl) _ rfl h8b
  simp only [Bool.not_false, go_sem, Nat.reduceEqDiff]
  rw [ldB27 (H.box 2 rfl) rfl]
  refine sequence_c hl hw r.2 (H.box 1 rfl) (hX.gr H.gr) (t4.is.gr H.gr) t3 (fun x hx => by have := hright x hx; omega) hb1 (by omega) ?_
  cases hft : fitsT s2.1 ws r.2 a b
  · simp only [go_sem, Nat.reduceEqDiff]
    rw [i64_of (n := (b : Int) + 1) (by omega) (by omega)]
    exact stay (by rw [hstepT, hc0, hft]; rfl) _ rfl h8b
  simp only [go_sem, Nat.reduceEqDiff]
  have H := H.drew
  rw [ldB3 (H.box 2 rfl) rfl]
  rw [ixa122 (by omega) (by omega), ixa121 (by omega) (by omega), ixa120 (by omega) (by omega)]
  simp only [Int.toNat_natCast, go_sem, Nat.reduceEqDiff]
  rw [hoff]
  refine storeH H 1 rfl sz4 rfl rfl (by rw [Nat.ble_eq, List.length_cons, cellsT_length]; omega) fun w12 H => ?_
  have hset : List.take (xl * 121 + a * 11 + b + 1) (.slice X ws.length cx :: cellsT s2.1) ++ (Value.bool true).cells.toList ++ List.drop (xl * 121 + a * 11 + b + 1 + 1) (.slice X ws.length cx :: cellsT s2.1) = .slice X ws.length cx :: cellsT (s2.1.put xl a b) := by
    rw [show (Value.bool true).cells.toList = [.bool true] from rfl, take_put_drop (by rw [List.length_cons, cellsT_length]; omega)]
    exact cellsT_put hxn (by omega) (by omega)
  rw [hset] at H
  rw [i64_of (n := (b : Int) + 1) (by omega) (by omega)]
  refine hN5 _ _ hlb ⟨by omega, hlb, rfl, ?_, ?_⟩
  · rw [hstep, hstepT, hc0, hft]
    rfl
  · rw [hstep, hstepT, hc0, hft]
    exact H
end Go.Proofs.Ytegcjkhebecgbaa

/- Contracts of what PumpWord reaches, third part. -/
set_option linter.unusedVariables false
set_option linter.unusedSimpArgs false
set_option maxRecDepth 100000
namespace Go.Sh
open Go
theorem inB_iff {n lo hi : Int} : inB n lo hi = true ↔ lo ≤ n ∧ n ≤ hi := by simp [inB]
end Go.Sh
namespace Go.Proofs.Ytegcjkhebecgbaa
open Go Go.Sh Go.RowKit

theorem pumpWord1_p {w : World} : Pred 4 (.func (.func 296) [].toArray [].toArray) (fun x => !inB x 0 1000000) w :=
  fun w1 g1 x k hk => callV0 (pumpWord1_c (hk w1 (Gr.refl w1)))
theorem implPumpWord_c {w : World} {X Y : Option Addr} {c d : Nat} {xs cs : List Int} {many : Int} (hx : Ints w X xs) (hc : xs.length ≤ c) (hy : Ints w Y cs) {k : Value → World → Prop}
    (hk : ∀ X' c' w', Gr w w' → match pumpW xs cs many with
      | some l => Own 3 w' w.heap.size X' c' l → k (.tuple #[.slice X' l.length c', .bool true]) w'
      | none => k (.tuple #[.slice none 0 0, .bool false]) w') :
    CallK Try.prog 228 [.slice X xs.length c, .slice Y cs.length d, .int .i64 many] k w := by
  refine enter228 ?_
  unfold S228
  have hno : ∀ w', Gr w w' → pumpW xs cs many = none → k (.tuple #[.slice none 0 0, .bool false]) w' := fun w' g e => by
    have := hk none 0 w' g
    rwa [e] at this
  simp only [go_sem, Nat.reduceEqDiff]
  by_cases h60 : (60 : Int) < xs.length
  · simp only [h60, decide_true, go_sem, Nat.reduceEqDiff]
    exact hno w (Gr.refl w) (if_neg fun h => by omega)
  simp only [h60, decide_false, go_sem, Nat.reduceEqDiff]
  by_cases h4' : cs.length = 4
  rotate_left
  · have h4 : ¬ (cs.length : Int) = 4 := by omega
    simp only [h4, decide_false, Bool.not_false, go_sem, Nat.reduceEqDiff]
    exact hno w (Gr.refl w) (if_neg fun h => h4' h.2.2.1.len)
  have h4 : (cs.length : Int) = 4 := by omega
  simp only [h4, decide_true, Bool.not_true, go_sem, Nat.reduceEqDiff]
  refine in_c ?_
  simp only [go_sem, Nat.reduceEqDiff]
  cases hm : inB many 0 4
  · simp only [Bool.not_false, go_sem, Nat.reduceEqDiff]
    exact hno w (Gr.refl w) (if_neg fun h => by rw [hm] at h; exact absurd h.2.2.2 (by decide))
  simp only [Bool.not_true, go_sem, Nat.reduceEqDiff]
  refine containsFunc_c (p := fun x => !inB x 0 1000000) hx pumpWord1_p fun w1 g1 => ?_
  have hany : xs.any (fun x => !inB x 0 1000000) = !allB xs 0 1000000 := by
    unfold allB
    rw [List.not_all_eq_any_not]
  rw [hany]
  cases ha : allB xs 0 1000000
  · simp only [Bool.not_false, go_sem, Nat.reduceEqDiff]
    exact hno w1 g1 (if_neg fun h => by rw [ha] at h; exact absurd h.2.1 (by decide))
  simp only [Bool.not_true, go_sem, Nat.reduceEqDiff]
  refine ⟨fun f w' => ∃ i : Nat, i ≤ 4 ∧ f 31 = .int .i64 i ∧ f 8 = .int .i64 (if i = 0 then 0 else cs.getD (i - 1) 0) ∧ Gr w w' ∧ (∀ j, j < i → (if j = 0 then 0 else cs.getD (j - 1) 0) ≤ cs.getD j 0 ∧ cs.getD j 0 ≤ xs.length), fun f _ => 4 - (intOf (f 31)).toNat,
    ⟨0, by omega, rfl, rfl, g1, fun j hj => absurd hj (Nat.not_lt_zero j)⟩, ?_⟩
  rintro f w2 hag ⟨i, hi, h31, h8, g2, hpre⟩
  have f0 : f 0 = .slice X xs.length c := hag 0 (by decide)
  have f1 : f 1 = .slice Y cs.length d := hag 1 (by decide)
  have f2 : f 2 = .int .i64 many := hag 2 (by decide)
  have f29 : f 29 = .slice Y cs.length d := hag 29 (by decide)
  have f30 : f 30 = .int .i64 4 := hag 30 (by decide)
  simp only [f0, f1, f2, f29, f30, h31, h8, go_sem, Nat.reduceEqDiff]
  by_cases hlt : i < 4
  · have hlt' : (i : Int) < 4 := by omega
    simp only [hlt', decide_true, go_sem, Nat.reduceEqDiff]
    rw [ixn27 hy.ptr (by omega), ld3 ((hy.gr g2).cell i (by omega))]
    refine in_c ?_
    simp only [go_sem, Nat.reduceEqDiff]
    cases hb : inB (cs.getD i 0) (if i = 0 then 0 else cs.getD (i - 1) 0) xs.length
    · simp only [Bool.not_false, go_sem, Nat.reduceEqDiff]
      refine hno w2 g2 (if_neg fun h => ?_)
      obtain ⟨_, c0, c1, c2, c3, c4⟩ := h.2.2.1
      have : inB (cs.getD i 0) (if i = 0 then 0 else cs.getD (i - 1) 0) xs.length = true := inB_iff.2 (by
        rcases (show i = 0 ∨ i = 1 ∨ i = 2 ∨ i = 3 by omega) with rfl | rfl | rfl | rfl
        · exact ⟨c0, by omega⟩
        · exact ⟨c1, by omega⟩
        · exact ⟨c2, by omega⟩
        · exact ⟨c3, by omega⟩)
      rw [hb] at this
      cases this
    · simp only [Bool.not_true, go_sem, Nat.reduceEqDiff]
      rw [i64_of (by omega) (by omega)]
      have hb' := inB_iff.1 hb
      refine ⟨⟨i + 1, hlt, rfl, by rw [if_neg (by omega)]; rfl, g2, fun j hj => ?_⟩, ?_⟩
      · rcases Nat.lt_succ_iff_lt_or_eq.1 hj with h | rfl
        · exact hpre j h
        · exact hb'
      · simp only [intOf]
        omega
  have hi4 : i = 4 := by omega
  subst hi4
  have e0 := hpre 0 (by omega)
  have e1 := hpre 1 (by omega)
  have e2 := hpre 2 (by omega)
  have e3 := hpre 3 (by omega)
  simp only [if_true, Nat.one_ne_zero, if_false, show (2 : Nat) ≠ 0 by decide, show (3 : Nat) ≠ 0 by decide, Nat.sub_self, show (2 - 1 : Nat) = 1 from rfl, show (3 - 1 : Nat) = 2 from rfl] at e0 e1 e2 e3
  have hcs : Cuts cs xs.length := ⟨h4', e0.1, e1.1, e2.1, e3.1, e3.2⟩
  have hm' := inB_iff.1 hm
  obtain ⟨m, rfl⟩ := Int.eq_ofNat_of_zero_le hm'.1
  have e : pumpW xs cs m = if (pumpL xs cs m).length ≤ 60 then some (pumpL xs cs m) else none := if_pos ⟨by omega, ha, hcs, hm⟩
  obtain ⟨_, c0, c1, c2, c3, c4⟩ := hcs
  simp only [show ¬ ((4 : Nat) : Int) < 4 by decide, decide_false, go_sem, Nat.reduceEqDiff]
  obtain ⟨p0, l0⟩ := Ints_seg hx hc (Int.le_refl 0) c0 (by omega)
  obtain ⟨p1, l1⟩ := Ints_seg hx hc c0 c1 (by omega)
  obtain ⟨p2, l2⟩ := Ints_seg hx hc (by omega) c2 (by omega)
  obtain ⟨p3, l3⟩ := Ints_seg hx hc (by omega) c3 (by omega)
  obtain ⟨p4, l4⟩ := Ints_seg hx hc (a := cs.getD 3 0) (b := xs.length) (by omega) c4 (Int.le_refl _)
  refine bs27 [] (by decide) (by simp [Instr.fill, madeCells]) rfl fun b w3 hb1 hb2 g3 hbox hrow => ?_
  have g3' := gr_trans g2 g3
  rw [ix27_0 hy.ptr (by omega), ld3 ((hy.gr g3').cell 0 (by omega)), slh27 c0 (by omega)]
  refine apI (xs := []) (hrow w.heap.size g2.size) (p0.gr g3') rfl (by rw [l0]; simp) (by rw [l0, List.length_nil]; omega) g3'.size fun X1 d1 w4 o1 g4 => ?_
  rw [List.nil_append] at o1
  have g4' := gr_mod g3' g4 fun q hq => by simp [blk] at hq; have := g2.size; omega
  have hl : xs.length ≤ 100 := by omega
  have hm4 : m ≤ 4 := by omega
  clear hag hpre e0 e1 e2 e3 h31 h8 f29 f30 hno
  have hb1 : (seg xs 0 (cs.getD 0 0)).length ≤ 100 := by omega
  refine ⟨fun f w' => ∃ (i : Nat) (X' : Option Addr) (c' : Nat), i ≤ m ∧ f 51 = .int .i64 i ∧ f 11 = .slice X' (seg xs 0 (cs.getD 0 0) ++ rep i (seg xs (cs.getD 0 0) (cs.getD 1 0))).length c' ∧ Gr w w' ∧ Own 3 w' w.heap.size X' c' (seg xs 0 (cs.getD 0 0) ++ rep i (seg xs (cs.getD 0 0) (cs.getD 1 0))), fun f _ => m - (intOf (f 51)).toNat,
    ⟨0, X1, d1, Nat.zero_le _, rfl, by simp [rep]; rfl, g4', by simpa [rep] using o1⟩, ?_⟩
  rintro f w2 hag ⟨i, X2, d2, him, h8, h7, g2, o2⟩
  have f0 : f 0 = .slice X xs.length c := (hag 0 (by decide)).trans f0
  have f1 : f 1 = .slice Y cs.length d := (hag 1 (by decide)).trans f1
  have f50 : f 50 = .int .i64 m := (hag 50 (by decide)).trans (by simp only [zq33, Nat.reduceEqDiff, ite_T, ite_F, f2])
  have f2 : f 2 = .int .i64 m := (hag 2 (by decide)).trans f2
  simp only [f0, f1, f2, f50, h7, h8, go_sem, Nat.reduceEqDiff]
  by_cases hlt : i < m
  · have hlt' : (i : Int) < m := by omega
    have gd := gr_trans g2 (gr_drew w2)
    simp only [hlt', decide_true, go_sem, Nat.reduceEqDiff]
    rw [ix27_0 hy.ptr (by omega), ld3 ((hy.gr gd).cell 0 (by omega)), ix27_1 hy.ptr (by omega), ld3 ((hy.gr gd).cell 1 (by omega)), sl27 c0 c1 (by omega)]
    have hlen : (seg xs 0 (cs.getD 0 0) ++ rep i (seg xs (cs.getD 0 0) (cs.getD 1 0))).length ≤ 100 + 4 * 100 := by
      rw [List.length_append, rep_length]
      have := Nat.mul_le_mul (show i ≤ 4 by omega) (show (seg xs (cs.getD 0 0) (cs.getD 1 0)).length ≤ 100 by omega)
      omega
    refine apI (o2.gr (gr_drew w2)) (p1.gr gd) rfl (by rw [l1]) (by omega) gd.size fun X3 d3 w3 o3 g3 => ?_
    rw [i64_of (by omega) (by omega)]
    have g3' := gr_mod gd g3 fun q hq => (Row.ge o2 hq).1
    rw [List.append_assoc, ← rep_succ] at o3
    refine ⟨⟨i + 1, X3, d3, hlt, rfl, by rw [List.append_assoc, ← rep_succ], g3', o3⟩, ?_⟩
    simp only [intOf]
    omega
  · have him' : i = m := by omega
    subst him'
    simp only [show ¬ (i : Int) < i from by omega, decide_false, go_sem, Nat.reduceEqDiff]
    have gd := gr_trans g2 (gr_drew w2)
    rw [ix27_1 hy.ptr (by omega), ld3 ((hy.gr gd).cell 1 (by omega)), ix27_2 hy.ptr (by omega), ld3 ((hy.gr gd).cell 2 (by omega)), sl27 (by omega) c2 (by omega)]
    have hlen : (seg xs 0 (cs.getD 0 0) ++ rep i (seg xs (cs.getD 0 0) (cs.getD 1 0))).length ≤ 100 + 4 * 100 := by
      rw [List.length_append, rep_length]
      have := Nat.mul_le_mul (show i ≤ 4 by omega) (show (seg xs (cs.getD 0 0) (cs.getD 1 0)).length ≤ 100 by omega)
      omega
    refine apI (o2.gr (gr_drew w2)) (p2.gr gd) rfl (by rw [l2]) (by omega) gd.size fun X3 d3 w3 o3 g3 => ?_
    have g3' := gr_mod gd g3 fun q hq => (Row.ge o2 hq).1
    have hlen3 : (seg xs 0 (cs.getD 0 0) ++ rep i (seg xs (cs.getD 0 0) (cs.getD 1 0)) ++ seg xs (cs.getD 1 0) (cs.getD 2 0)).length ≤ 600 := by
      rw [List.length_append]
      omega
    refine ⟨fun f w' => ∃ (j : Nat) (X' : Option Addr) (c' : Nat), j ≤ i ∧ f 75 = .int .i64 j ∧ f 11 = .slice X' (seg xs 0 (cs.getD 0 0) ++ rep i (seg xs (cs.getD 0 0) (cs.getD 1 0)) ++ seg xs (cs.getD 1 0) (cs.getD 2 0) ++ rep j (seg xs (cs.getD 2 0) (cs.getD 3 0))).length c' ∧ Gr w w' ∧ Own 3 w' w.heap.size X' c' (seg xs 0 (cs.getD 0 0) ++ rep i (seg xs (cs.getD 0 0) (cs.getD 1 0)) ++ seg xs (cs.getD 1 0) (cs.getD 2 0) ++ rep j (seg xs (cs.getD 2 0) (cs.getD 3 0))), fun f _ => i - (intOf (f 75)).toNat,
      ⟨0, X3, d3, Nat.zero_le _, rfl, by simp [rep]; rfl, g3', by simpa [rep] using o3⟩, ?_⟩
    rintro f' w4 hag' ⟨j, X4, d4, hji, h9, h7', g4, o4⟩
    have f0' : f' 0 = .slice X xs.length c := (hag' 0 (by decide)).trans f0
    have f1' : f' 1 = .slice Y cs.length d := (hag' 1 (by decide)).trans f1
    have f74' : f' 74 = .int .i64 i := (hag' 74 (by decide)).trans (by simp only [zq33, Nat.reduceEqDiff, ite_T, ite_F, f2])
    simp only [f0', f1', f74', h7', h9, go_sem, Nat.reduceEqDiff]
    have hlen4 : (seg xs 0 (cs.getD 0 0) ++ rep i (seg xs (cs.getD 0 0) (cs.getD 1 0)) ++ seg xs (cs.getD 1 0) (cs.getD 2 0) ++ rep j (seg xs (cs.getD 2 0) (cs.getD 3 0))).length ≤ 600 + 4 * 100 := by
      rw [List.length_append, rep_length j]
      have := Nat.mul_le_mul (show j ≤ 4 by omega) (show (seg xs (cs.getD 2 0) (cs.getD 3 0)).length ≤ 100 by omega)
      omega
    by_cases hlt2 : j < i
    · have hlt' : (j : Int) < i := by omega
      have gd4 := gr_trans g4 (gr_drew w4)
      simp only [hlt', decide_true, go_sem, Nat.reduceEqDiff]
      rw [ix27_2 hy.ptr (by omega), ld3 ((hy.gr gd4).cell 2 (by omega)), ix27_3 hy.ptr (by omega), ld3 ((hy.gr gd4).cell 3 (by omega)), sl27 (by omega) c3 (by omega)]
      refine apI (o4.gr (gr_drew w4)) (p3.gr gd4) rfl (by rw [l3]) (by omega) gd4.size fun X5 d5 w5 o5 g5 => ?_
      rw [i64_of (by omega) (by omega)]
      have g5' := gr_mod gd4 g5 fun q hq => (Row.ge o4 hq).1
      rw [List.append_assoc, ← rep_succ] at o5
      refine ⟨⟨j + 1, X5, d5, hlt2, rfl, by rw [List.append_assoc, ← rep_succ], g5', o5⟩, ?_⟩
      simp only [intOf]
      omega
    · have hji' : j = i := by omega
      subst hji'
      simp only [show ¬ (j : Int) < j from by omega, decide_false, go_sem, Nat.reduceEqDiff]
      rw [ix27_3 hy.ptr (by omega), ld3 ((hy.gr g4).cell 3 (by omega)), sll27 (by omega) c4]
      refine apI o4 (p4.gr g4) rfl (by rw [l4]; simp) (by omega) g4.size fun X5 d5 w5 o5 g5 => ?_
      have g5' := gr_mod g4 g5 fun q hq => (Row.ge o4 hq).1
      have hk' := hk X5 d5 w5 g5'
      rw [e] at hk'
      simp only [go_sem, Nat.reduceEqDiff]
      change CondK (.bool (decide ((60 : Int) < (pumpL xs cs j).length))) (k (.tuple #[.slice none 0 0, .bool false]) w5) (k (.tuple #[.slice X5 (pumpL xs cs j).length d5, .bool true]) w5)
      by_cases hl' : (pumpL xs cs j).length ≤ 60
      · simp only [show (Int.ofNat j).toNat = j from rfl, hl', if_true] at hk'
        have := hk' o5
        simp only [show ¬ (60 : Int) < (pumpL xs cs j).length by omega, decide_false, go_sem, Nat.reduceEqDiff]
        exact this
      · rw [if_neg hl'] at hk'
        simp only [show (60 : Int) < (pumpL xs cs j).length by omega, decide_true, go_sem, Nat.reduceEqDiff]
        exact hk'

end Go.Proofs.Ytegcjkhebecgbaa

/- The law of PumpWord, over its contracts. -/
set_option linter.unusedVariables false
set_option linter.unusedSimpArgs false
set_option maxRecDepth 100000
namespace Go.Proofs.Ytegcjkhebecgbaa
open Go Go.Sh Go.RowKit

end Go.Proofs.Ytegcjkhebecgbaa

/- Contracts: words of tokens, by the reference and by the program; what can be pumped at given places. -/
set_option linter.unusedVariables false
set_option linter.unusedSimpArgs false
set_option maxRecDepth 100000
namespace Go.Sh
open Go
def wordB (toks : Int) (ws : List Int) : Bool := decide (ws.length ≤ 10) && allB ws 0 (toks - 1)
theorem wordB_len {toks : Int} {ws : List Int} (h : wordB toks ws = true) : ws.length ≤ 10 := by
  simp only [wordB, Bool.and_eq_true, decide_eq_true_eq] at h
  exact h.1
theorem wordB_tok {toks : Int} {ws : List Int} (h : wordB toks ws = true) (ht : toks ≤ 4) : ∀ t ∈ ws, 0 ≤ t ∧ t ≤ 100 := fun t hm => by
  simp only [wordB, Bool.and_eq_true, decide_eq_true_eq, allB, List.all_eq_true, inB] at h
  have := h.2 t hm
  omega
theorem mem_seg {xs : List Int} {a b x : Int} (h : x ∈ seg xs a b) : x ∈ xs := List.mem_of_mem_drop (List.mem_of_mem_take h)
theorem mem_rep {m : Nat} {l : List Int} {x : Int} (h : x ∈ rep m l) : x ∈ l := by
  unfold rep at h
  rw [List.mem_flatten] at h
  obtain ⟨l', h1, h2⟩ := h
  rw [List.eq_of_mem_replicate h1] at h2
  exact h2
theorem mem_pumpL {xs cs : List Int} {m : Nat} {x : Int} (h : x ∈ pumpL xs cs m) : x ∈ xs := by
  unfold pumpL at h
  rcases List.mem_append.1 h with h | h
  · rcases List.mem_append.1 h with h | h
    · rcases List.mem_append.1 h with h | h
      · rcases List.mem_append.1 h with h | h
        · exact mem_seg h
        · exact mem_seg (mem_rep h)
      · exact mem_seg h
    · exact mem_seg (mem_rep h)
  · exact mem_seg h
/-- Whether what is pumped so many times is told of. -/
def fineP (ws cs : List Int) (k : Nat) : Bool := match pumpW ws cs k with
  | some x => decide (x.length ≤ 10)
  | none => false
noncomputable def isPumpV (gm : Gram) (ws cs : List Int) (m : Int) : Bool × Bool :=
  if (goodG gm && wordB gm.toks ws) = true ∧ Cuts cs ws.length ∧ ¬ (cs.getD 0 0 = cs.getD 1 0 ∧ cs.getD 2 0 = cs.getD 3 0) ∧ inB m 0 4 = true then
    (if (List.range (m.toNat + 1)).all (fineP ws cs) = true then ((List.range (m.toNat + 1)).all (fun k => inL gm.rules (pumpL ws cs k)), true) else (false, false))
  else (false, false)
theorem pumpW_eq {xs cs : List Int} {m : Int} {x : List Int} (h : pumpW xs cs m = some x) : x = pumpL xs cs m.toNat := by
  unfold pumpW at h
  split at h
  · split at h
    · exact (Option.some.inj h).symm
    · cases h
  · cases h
theorem range_all_succ {p : Nat → Bool} {n : Nat} : (List.range (n + 1)).all p = ((List.range n).all p && p n) := by
  rw [List.range_succ, List.all_append]
  simp
theorem fineP_cuts {ws cs : List Int} {k : Nat} (h : fineP ws cs k = true) : Cuts cs ws.length := by
  unfold fineP at h
  cases hp : pumpW ws cs k with
  | none => rw [hp] at h; cases h
  | some x =>
    unfold pumpW at hp
    split at hp
    · rename_i hh
      exact hh.2.2.1
    · cases hp
theorem range_all_not {p : Nat → Bool} {n i : Nat} (hi : i < n) (h : p i = false) : (List.range n).all p = false := by
  rw [List.all_eq_false]
  exact ⟨i, List.mem_range.2 hi, by rw [h]; decide⟩
end Go.Sh
namespace Go.Proofs.Ytegcjkhebecgbaa
open Go Go.Sh Go.RowKit

theorem isWord1_c {x toks : Int} {w : World} {b t : Nat} (hB : Box w b [.int .i64 toks] t) (h1 : 1 ≤ toks) (h4 : toks ≤ 4) {k : Value → World → Prop} (hk : k (.bool (!inB x 0 (toks - 1))) w) : CallK Try.prog 251 [.int .i64 x, ptrv b] k w := by
  refine enter251 ?_
  unfold S251
  rw [ldB3 hB rfl]
  simp only [go_sem, Nat.reduceEqDiff]
  rw [i64_of (by omega) (by omega)]
  refine in_c ?_
  simp only [go_sem, Nat.reduceEqDiff]
  exact hk
theorem isWord_c {w : World} {X : Option Addr} {n cx : Nat} {toks : Int} {ws : List Int} (hX : Ints w X ws) (hn : n = ws.length) (h1 : 1 ≤ toks) (h4 : toks ≤ 4) {k : Value → World → Prop} (hk : ∀ w', Gr w w' → k (.bool (wordB toks ws)) w') :
    CallK Try.prog 150 [.int .i64 toks, .slice X n cx] k w := by
  subst hn
  refine enter150 ?_
  unfold S150
  have H := Apt.nil w
  refine boxH H fun b1 w1 H => ?_
  simp only [go_sem, Nat.reduceEqDiff]
  unfold wordB at hk
  by_cases hl : ws.length ≤ 10
  case neg =>
    simp only [show ¬ ((ws.length : Int) ≤ 10) from by omega, decide_false, go_sem, Nat.reduceEqDiff]
    simpa only [hl, decide_false, Bool.false_and] using hk _ H.gr
  simp only [show ((ws.length : Int) ≤ 10) from by omega, decide_true, go_sem, Nat.reduceEqDiff]
  have hb : Box w1 b1 [.int .i64 toks] 3 := H.box 0 rfl
  have hp : Pred 4 (.func (.func 251) [].toArray [ptrv b1].toArray) (fun x => !inB x 0 (toks - 1)) w1 := fun w3 g3 x k hk =>
    callVc (isWord1_c (hb.gr g3) h1 h4 (hk w3 (Gr.refl w3)))
  refine containsFunc_c (hX.gr H.gr) hp fun w3 g3 => ?_
  have H := H.step g3
  simp only [go_sem, Nat.reduceEqDiff]
  have := hk _ H.gr
  simp only [hl, decide_true, Bool.true_and] at this
  rwa [show allB ws 0 (toks - 1) = !ws.any (fun x => !inB x 0 (toks - 1)) from by simp [allB, List.not_any_eq_all_not]] at this
theorem implIsPump_c {F : Nat → Prop} {w : World} {v : Value} {gm : Gram} {X C : Option Addr} {n cx nc cc : Nat} {ws cs : List Int} {m : Int} (hv : GramV F w v gm) (hX : Ints w X ws) (hn : n = ws.length) (hcx : ws.length ≤ cx) (hC : Ints w C cs) (hnc : nc = cs.length) {k : Value → World → Prop}
    (hk : ∀ w', Gr w w' → k (.tuple #[.bool (isPumpV gm ws cs m).1, .bool (isPumpV gm ws cs m).2]) w') : CallK Try.prog 119 [v, .slice X n cx, .slice C nc cc, .int .i64 m] k w := by
  subst hn hnc
  obtain ⟨Y, cy, rfl, hc, hy⟩ := hv
  refine enter119 ?_
  unfold S119
  have H := Apt.nil w
  refine boxH H fun b1 w1 H => ?_
  have H := H.drew
  refine ⟨fun w' => Gr w1.drew w', Gr.refl _, ?_⟩
  rw [rdG_agg agg26 sz26 rfl (H.box 0 rfl)]
  have G0 := H.gr
  have hb1 : Box w1.drew b1 [.int .i64 gm.nons, .int .i64 gm.toks, .slice Y gm.rules.length cy] 26 := H.box 0 rfl
  refine isGrammar_c (gm := gm) ⟨Y, cy, rfl, hc, hy.gr H.gr⟩ fun w2 g2 => ?_
  refine ⟨g2, ?_⟩
  have H := H.step g2
  have no : ¬ ((goodG gm && wordB gm.toks ws) = true ∧ Cuts cs ws.length ∧ ¬ (cs.getD 0 0 = cs.getD 1 0 ∧ cs.getD 2 0 = cs.getD 3 0) ∧ inB m 0 4 = true) → ∀ w', Gr w w' → k (.tuple #[.bool false, .bool false]) w' := fun h w' g => by
    have := hk w' g
    rwa [isPumpV, if_neg h] at this
  cases hg1 : goodG gm
  · simp only [Bool.not_false, go_sem, Nat.reduceEqDiff]
    exact ⟨g2, no (fun h => by rw [hg1, Bool.false_and] at h; exact absurd h.1 Bool.false_ne_true) _ H.gr⟩
  simp only [Bool.not_true, go_sem, Nat.reduceEqDiff]
  have ht := good_toks hg1
  rw [rdG one3 hb1 rfl]
  refine isWord_c (hX.gr H.gr) rfl ht.1 ht.2 fun w3 g3 => ?_
  refine ⟨gr_trans g2 g3, ?_⟩
  have H := H.step g3
  cases hw1 : wordB gm.toks ws
  · simp only [Bool.not_false, go_sem, Nat.reduceEqDiff]
    exact no (fun h => by rw [hw1, Bool.and_false] at h; exact absurd h.1 Bool.false_ne_true) _ H.gr
  have hgw : (goodG gm && wordB gm.toks ws) = true := by rw [hg1, hw1]; rfl
  have hlen := wordB_len hw1
  have htok := wordB_tok hw1 ht.2
  simp only [Bool.not_true, go_sem, Nat.reduceEqDiff]
  by_cases hc4 : cs.length = 4
  case neg =>
    simp only [show ¬ ((cs.length : Int) = 4) from by omega, decide_false, Bool.not_false, go_sem, Nat.reduceEqDiff]
    exact no (fun h => hc4 h.2.1.len) _ H.gr
  simp only [show ((cs.length : Int) = 4) from by omega, decide_true, Bool.not_true, go_sem, Nat.reduceEqDiff]
  have hCp : C = some (ad C) := hC.ptr (by omega)
  have rdc : ∀ (j : Nat), j < 4 → ∀ w', Gr w1.drew w' → w'.cell? ((ad C).add j) = some (.int .i64 (cs.getD j 0)) := fun j hj w' g' => (hC.gr (gr_trans G0 g')).cell j (by omega)
  rw [ix27_0 (fun _ => hCp) (by omega), ldS3 (fun w' g' => rdc 0 (by decide) w' g'), ix27_1 (fun _ => hCp) (by omega), ldS3 (fun w' g' => rdc 1 (by decide) w' g')]
  simp only [go_sem, Nat.reduceEqDiff]
  by_cases h01 : cs.getD 1 0 ≤ cs.getD 0 0
  · simp only [h01, decide_true, go_sem, Nat.reduceEqDiff]
    rw [ix27_2 (fun _ => hCp) (by omega), ldS3 (fun w' g' => rdc 2 (by decide) w' g'), ix27_3 (fun _ => hCp) (by omega), ldS3 (fun w' g' => rdc 3 (by decide) w' g')]
    simp only [go_sem, Nat.reduceEqDiff]
    by_cases h23 : cs.getD 3 0 ≤ cs.getD 2 0
    · simp only [h23, decide_true, go_sem, Nat.reduceEqDiff]
      exact no (fun h => h.2.2.1 ⟨by have := h.2.1.h01; omega, by have := h.2.1.h23; omega⟩) _ H.gr
    simp only [h23, decide_false, go_sem, Nat.reduceEqDiff]
    have hd : Cuts cs ws.length → ¬ (cs.getD 0 0 = cs.getD 1 0 ∧ cs.getD 2 0 = cs.getD 3 0) := fun hcu h => by omega
    refine in_c ?_
    cases hm : inB m 0 4
    · simp only [Bool.not_false, go_sem, Nat.reduceEqDiff]
      exact no (fun h => by rw [hm] at h; exact absurd h.2.2.2 Bool.false_ne_true) _ H.gr
    obtain ⟨m, rfl⟩ : ∃ m' : Nat, m = m' := by
      simp only [inB, Bool.and_eq_true, decide_eq_true_eq] at hm
      exact ⟨m.toNat, by omega⟩
    have hm4 : m ≤ 4 := by
      simp only [inB, Bool.and_eq_true, decide_eq_true_eq] at hm
      omega
    have hV : Cuts cs ws.length → isPumpV gm ws cs (m : Nat) = (if (List.range (m + 1)).all (fineP ws cs) = true then ((List.range (m + 1)).all (fun k => inL gm.rules (pumpL ws cs k)), true) else (false, false)) := fun hcuts => by
      rw [isPumpV, if_pos ⟨hgw, hcuts, hd hcuts, hm⟩, Int.toNat_natCast]
    simp only [Bool.not_true, go_sem, Nat.reduceEqDiff]
    rw [i64_of (by omega) (by omega)]
    refine loop_to (m + 1) 0 (fun r f w' => r ≤ m + 1 ∧ f 54 = .int .i64 r ∧ (∀ r', r' < r → fineP ws cs r' = true) ∧ f 10 = .bool ((List.range r).all (fun k => inL gm.rules (pumpL ws cs k))) ∧ Apt w w' [bx b1 [.int .i64 gm.nons, .int .i64 gm.toks, .slice Y gm.rules.length cy] 26]) ⟨Nat.zero_le _, rfl, fun r' h => absurd h (Nat.not_lt_zero _), rfl, H⟩ ?_
    rintro r f w5 N hag ⟨hr, h11, hfine, h10, H⟩ hN
    have f1 : f 1 = .slice X ws.length cx := hag 1 (by decide)
    have f2 : f 2 = .slice C cs.length cc := hag 2 (by decide)
    have f53 : f 53 = .int .i64 ((m : Int) + 1) := hag 53 (by decide)
    have f4 : f 4 = ptrv b1 := hag 4 (by decide)
    simp only [f1, f2, f53, f4, h11, h10, go_sem, Nat.reduceEqDiff]
    by_cases hlt : r ≤ m
    case neg =>
      simp only [show ¬ ((r : Int) < (m : Int) + 1) from by omega, decide_false, go_sem, Nat.reduceEqDiff]
      obtain rfl : r = m + 1 := by omega
      have hcuts : Cuts cs ws.length := fineP_cuts (hfine 0 (by omega))
      rw [hV hcuts, if_pos (range_all fun j hj => hfine j hj)] at hk
      exact hk _ H.gr
    simp only [show ((r : Int) < (m : Int) + 1) from by omega, decide_true, go_sem, Nat.reduceEqDiff]
    have bad : fineP ws cs r = false → ∀ w', Gr w w' → k (.tuple #[.bool false, .bool false]) w' := fun hf w' g => by
      by_cases hcuts : Cuts cs ws.length
      · have := hk w' g
        rwa [hV hcuts, if_neg (by rw [range_all_not (i := r) (by omega) hf]; exact Bool.false_ne_true)] at this
      · exact no (fun h => hcuts h.2.1) w' g
    have G5 := H.gr
    refine implPumpWord_c (hX.gr H.gr) hcx (hC.gr H.gr) fun X' c' w6 g6 => ?_
    have H := H.step g6
    cases hp : pumpW ws cs r with
    | none =>
      simp only [Bool.not_false, go_sem, Nat.reduceEqDiff]
      exact bad (by simp only [fineP, hp]) _ H.gr
    | some x =>
      dsimp only
      intro o
      simp only [Bool.not_true, go_sem, Nat.reduceEqDiff]
      have hxe := pumpW_eq hp
      rw [Int.toNat_natCast] at hxe
      by_cases hx10 : x.length ≤ 10
      case neg =>
        simp only [show ((10 : Int) < x.length) from by omega, decide_true, go_sem, Nat.reduceEqDiff]
        exact bad (by simp only [fineP, hp, hx10, decide_false]) _ H.gr
      simp only [show ¬ ((10 : Int) < x.length) from by omega, decide_false, go_sem, Nat.reduceEqDiff]
      have hf : fineP ws cs r = true := by simp only [fineP, hp, hx10, decide_true]
      have hfine' : ∀ r', r' < r + 1 → fineP ws cs r' = true := fun r' h => by
        by_cases e : r' = r
        · rw [e]; exact hf
        · exact hfine r' (by omega)
      cases hacc : (List.range r).all (fun k => inL gm.rules (pumpL ws cs k))
      · simp only [go_sem, Nat.reduceEqDiff]
        rw [i64_of (by omega) (by omega)]
        exact hN _ _ (by omega) ⟨by omega, rfl, hfine', by rw [range_all_succ, hacc]; rfl, H⟩
      · simp only [go_sem, Nat.reduceEqDiff]
        rw [ldB_agg agg26 sz26 rfl (H.box 0 rfl)]
        have hxt : ∀ t ∈ x, 0 ≤ t ∧ t ≤ 100 := fun t hmem => htok t (mem_pumpL (hxe ▸ hmem))
        refine spans_c (gm := gm) ⟨Y, cy, rfl, hc, hy.gr H.gr⟩ hg1 (Own.ints o) rfl hx10 hxt fun w7 bT HT => ?_
        have G6 := H.gr
        simp only [go_sem, Nat.reduceEqDiff]
        rw [ixa122 (by decide) (by decide), ixa121 (by decide) (by decide), ixa120 (by omega) (by omega)]
        simp only [Int.toNat_natCast, go_sem, Nat.reduceEqDiff]
        have hoff : 0 + (0 + 1) + Int.toNat 0 * 121 + Int.toNat 0 * 11 + x.length = 0 * 121 + 0 * 11 + x.length + 1 := by
          rw [show Int.toNat 0 = 0 from rfl]
          omega
        rw [hoff, ldB4 (HT.box 0 rfl) (cellsT_at (by decide) (by decide) (by omega))]
        have H := H.step HT.gr
        rw [i64_of (by omega) (by omega)]
        refine hN _ _ (by omega) ⟨by omega, rfl, hfine', ?_, H⟩
        rw [range_all_succ, hacc, ← hxe]
        rfl

  · simp only [h01, decide_false, go_sem, Nat.reduceEqDiff]
    have hd : Cuts cs ws.length → ¬ (cs.getD 0 0 = cs.getD 1 0 ∧ cs.getD 2 0 = cs.getD 3 0) := fun hcu h => by omega
    refine in_c ?_
    cases hm : inB m 0 4
    · simp only [Bool.not_false, go_sem, Nat.reduceEqDiff]
      exact no (fun h => by rw [hm] at h; exact absurd h.2.2.2 Bool.false_ne_true) _ H.gr
    obtain ⟨m, rfl⟩ : ∃ m' : Nat, m = m' := by
      simp only [inB, Bool.and_eq_true, decide_eq_true_eq] at hm
      exact ⟨m.toNat, by omega⟩
    have hm4 : m ≤ 4 := by
      simp only [inB, Bool.and_eq_true, decide_eq_true_eq] at hm
      omega
    have hV : Cuts cs ws.length → isPumpV gm ws cs (m : Nat) = (if (List.range (m + 1)).all (fineP ws cs) = true then ((List.range (m + 1)).all (fun k => inL gm.rules (pumpL ws cs k)), true) else (false, false)) := fun hcuts => by
      rw [isPumpV, if_pos ⟨hgw, hcuts, hd hcuts, hm⟩, Int.toNat_natCast]
    simp only [Bool.not_true, go_sem, Nat.reduceEqDiff]
    rw [i64_of (by omega) (by omega)]
    refine loop_to (m + 1) 0 (fun r f w' => r ≤ m + 1 ∧ f 54 = .int .i64 r ∧ (∀ r', r' < r → fineP ws cs r' = true) ∧ f 10 = .bool ((List.range r).all (fun k => inL gm.rules (pumpL ws cs k))) ∧ Apt w w' [bx b1 [.int .i64 gm.nons, .int .i64 gm.toks, .slice Y gm.rules.length cy] 26]) ⟨Nat.zero_le _, rfl, fun r' h => absurd h (Nat.not_lt_zero _), rfl, H⟩ ?_
    rintro r f w5 N hag ⟨hr, h11, hfine, h10, H⟩ hN
    have f1 : f 1 = .slice X ws.length cx := hag 1 (by decide)
    have f2 : f 2 = .slice C cs.length cc := hag 2 (by decide)
    have f53 : f 53 = .int .i64 ((m : Int) + 1) := hag 53 (by decide)
    have f4 : f 4 = ptrv b1 := hag 4 (by decide)
    simp only [f1, f2, f53, f4, h11, h10, go_sem, Nat.reduceEqDiff]
    by_cases hlt : r ≤ m
    case neg =>
      simp only [show ¬ ((r : Int) < (m : Int) + 1) from by omega, decide_false, go_sem, Nat.reduceEqDiff]
      obtain rfl : r = m + 1 := by omega
      have hcuts : Cuts cs ws.length := fineP_cuts (hfine 0 (by omega))
      rw [hV hcuts, if_pos (range_all fun j hj => hfine j hj)] at hk
      exact hk _ H.gr
    simp only [show ((r : Int) < (m : Int) + 1) from by omega, decide_true, go_sem, Nat.reduceEqDiff]
    have bad : fineP ws cs r = false → ∀ w', Gr w w' → k (.tuple #[.bool false, .bool false]) w' := fun hf w' g => by
      by_cases hcuts : Cuts cs ws.length
      · have := hk w' g
        rwa [hV hcuts, if_neg (by rw [range_all_not (i := r) (by omega) hf]; exact Bool.false_ne_true)] at this
      · exact no (fun h => hcuts h.2.1) w' g
    have G5 := H.gr
    refine implPumpWord_c (hX.gr H.gr) hcx (hC.gr H.gr) fun X' c' w6 g6 => ?_
    have H := H.step g6
    cases hp : pumpW ws cs r with
    | none =>
      simp only [Bool.not_false, go_sem, Nat.reduceEqDiff]
      exact bad (by simp only [fineP, hp]) _ H.gr
    | some x =>
      dsimp only
      intro o
      simp only [Bool.not_true, go_sem, Nat.reduceEqDiff]
      have hxe := pumpW_eq hp
      rw [Int.toNat_natCast] at hxe
      by_cases hx10 : x.length ≤ 10
      case neg =>
        simp only [show ((10 : Int) < x.length) from by omega, decide_true, go_sem, Nat.reduceEqDiff]
        exact bad (by simp only [fineP, hp, hx10, decide_false]) _ H.gr
      simp only [show ¬ ((10 : Int) < x.length) from by omega, decide_false, go_sem, Nat.reduceEqDiff]
      have hf : fineP ws cs r = true := by simp only [fineP, hp, hx10, decide_true]
      have hfine' : ∀ r', r' < r + 1 → fineP ws cs r' = true := fun r' h => by
        by_cases e : r' = r
        · rw [e]; exact hf
        · exact hfine r' (by omega)
      cases hacc : (List.range r).all (fun k => inL gm.rules (pumpL ws cs k))
      · simp only [go_sem, Nat.reduceEqDiff]
        rw [i64_of (by omega) (by omega)]
        exact hN _ _ (by omega) ⟨by omega, rfl, hfine', by rw [range_all_succ, hacc]; rfl, H⟩
      · simp only [go_sem, Nat.reduceEqDiff]
        rw [ldB_agg agg26 sz26 rfl (H.box 0 rfl)]
        have hxt : ∀ t ∈ x, 0 ≤ t ∧ t ≤ 100 := fun t hmem => htok t (mem_pumpL (hxe ▸ hmem))
        refine spans_c (gm := gm) ⟨Y, cy, rfl, hc, hy.gr H.gr⟩ hg1 (Own.ints o) rfl hx10 hxt fun w7 bT HT => ?_
        have G6 := H.gr
        simp only [go_sem, Nat.reduceEqDiff]
        rw [ixa122 (by decide) (by decide), ixa121 (by decide) (by decide), ixa120 (by omega) (by omega)]
        simp only [Int.toNat_natCast, go_sem, Nat.reduceEqDiff]
        have hoff : 0 + (0 + 1) + Int.toNat 0 * 121 + Int.toNat 0 * 11 + x.length = 0 * 121 + 0 * 11 + x.length + 1 := by
          rw [show Int.toNat 0 = 0 from rfl]
          omega
        rw [hoff, ldB4 (HT.box 0 rfl) (cellsT_at (by decide) (by decide) (by omega))]
        have H := H.step HT.gr
        rw [i64_of (by omega) (by omega)]
        refine hN _ _ (by omega) ⟨by omega, rfl, hfine', ?_, H⟩
        rw [range_all_succ, hacc, ← hxe]
        rfl

end Go.Proofs.Ytegcjkhebecgbaa

/- Contracts: PumpOf and PathIn of the program. -/
set_option linter.unusedVariables false
set_option linter.unusedSimpArgs false
set_option maxRecDepth 100000
namespace Go.Sh
open Go
theorem Apt.emptySS {w0 w : World} {L : List Thing} (H : Apt w0 w L) (i : Nat) {e1 e2 c : Nat} {X : Option Addr} (ps : Nat → Option Addr × Nat) (hi : L[i]? = some (rwi e1 1 X 0 c [])) : Apt w0 w (L.set i (Sh.lssi e1 e2 X c [] ps)) := by
  have hr := H.row i hi
  have o : OwnSS e1 e2 w w0.heap.size X c [] ps := ⟨⟨[], hr, fun j hj => by simp at hj⟩, fun j hj => by simp at hj, fun i j hi => by simp at hi⟩
  refine H.set hi (Gx.refl _ w) (fun q hq => ?_) (fun q hq => (o.foot hq).2) (lssi_kept o)
  rcases hq with hq | ⟨l, hl, _⟩
  · exact .inl hq
  · simp at hl
end Go.Sh
namespace Go.Proofs.Ytegcjkhebecgbaa
open Go Go.Sh Go.RowKit

theorem inf220 : Inf Try.prog 220 .nilFunc 1 8 := inf_of (by kernel_rfl)
theorem tree_c {gm : Gram} {tree : List Int} {X : Option Addr} {n c : Nat} (hg : goodG gm = true) (ht : tree.length ≤ 60) {F : Nat → Prop} {w : World} {v : Value} (hv : GramV F w v gm) (hx : Ints w X tree) (hn : n = tree.length) {k : Value → World → Prop}
    (hk0 : readT gm.rules tree tree.length 0 0 [] = none → ∀ w' v1 v2, Gr w w' → k (.tuple #[v1, v2, .bool false]) w')
    (hk1 : ∀ p ws, readT gm.rules tree tree.length 0 0 [] = some (p, ws) → ∀ w' b E W cw, Apt w w' [ows W cw ws, pti E p b] → k (.tuple #[ptrv b, .slice W ws.length cw, .bool true]) w') :
    CallK Try.prog 179 [v, .int .i64 0, .slice X n c] k w := by
  subst hn
  obtain ⟨Y, cy, rfl, hc, hy⟩ := hv
  refine enter179 ?_
  unfold S179
  have H := Apt.nil w
  refine boxH H fun bG w1 H => ?_
  refine boxH H fun bR w2 H => ?_
  refine buildH H u27 inf3 [] (by decide) (by decide) (by simp [Instr.fill, madeCells]) rfl fun b0 w3 H => ?_
  refine allocH H inf27 fun bW w4 H => ?_
  refine storeH H 3 rfl sz27 rfl rfl rfl fun w5 H => ?_
  refine allocH H inf220 fun bF w6 H => ?_
  simp only [go_sem, Nat.reduceEqDiff]
  refine storeH H 4 rfl sz220 rfl rfl rfl fun w7 H => ?_
  simp only [List.nil_append, List.cons_append, List.set_cons_zero, List.set_cons_succ] at H
  have H := H.pick (L' := held4 gm tree X Y c cy bR bG bW bF (some ⟨b0, 0, none⟩) 0 []) (fun i => [1, 0, 3, 4, 2].getD i 0) (fun i a ha => by
    match i, ha with
    | 0, ha => exact ha
    | 1, ha => exact ha
    | 2, ha => exact ha
    | 3, ha => exact ha
    | 4, ha => exact ha
    | i + 5, ha => simp [held4] at ha) (fun i j hi hj e => by
    simp only [held4, List.length_cons, List.length_nil] at hi hj
    match i, j, hi, hj, e with
    | 0, 0, _, _, _ | 1, 1, _, _, _ | 2, 2, _, _, _ | 3, 3, _, _, _ | 4, 4, _, _, _ => rfl
    | 0, 1, _, _, e | 0, 2, _, _, e | 0, 3, _, _, e | 0, 4, _, _, e | 1, 0, _, _, e | 1, 2, _, _, e | 1, 3, _, _, e | 1, 4, _, _, e | 2, 0, _, _, e | 2, 1, _, _, e | 2, 3, _, _, e | 2, 4, _, _, e | 3, 0, _, _, e | 3, 1, _, _, e | 3, 2, _, _, e | 3, 4, _, _, e | 4, 0, _, _, e | 4, 1, _, _, e | 4, 2, _, _, e | 4, 3, _, _, e => exact absurd e (by decide)
    | i + 5, _, h, _, _ => omega
    | _, j + 5, _, h, _ => omega)
  rw [ldB220 (H.box 3 rfl) rfl]
  refine callVc (caps := [ptrv bR, ptrv bG, ptrv bW, ptrv bF]) ?_
  refine read_c hg ht hx hy tree.length (M := []) (a := 0) H (by omega) (by simp; omega) (fun hz w8 v W cw ws H => ?_) fun p ws hz w8 b E W cw H => ?_
  · simp only [go_sem, Nat.reduceEqDiff]
    have H := H.drew
    rw [ldB27 (H.box 2 rfl) rfl]
    exact hk0 hz _ _ _ H.gr
  · simp only [go_sem, Nat.reduceEqDiff]
    have H := H.drew
    rw [ldB27 (H.box 2 rfl) rfl]
    exact hk1 p ws hz _ _ _ _ _ ((((H.erase 0).erase 0).erase 0).erase 0)
theorem whole_c {gm : Gram} {tree : List Int} {X : Option Addr} {n c : Nat} {F : Nat → Prop} {w : World} {v : Value} (hv : GramV F w v gm) (hx : Ints w X tree) (hn : n = tree.length) {k : Value → World → Prop}
    (hk0 : askedT gm tree = false → ∀ w' v1 v2, Gr w w' → k (.tuple #[v1, v2, .bool false]) w')
    (hk1 : ∀ p ws, Whole gm tree p ws → ∀ w' b E W cw, Apt w w' [ows W cw ws, pti E p b] → k (.tuple #[ptrv b, .slice W ws.length cw, .bool true]) w') :
    CallK Try.prog 221 [v, .slice X n c] k w := by
  subst hn
  obtain ⟨Y, cy, rfl, hc, hy⟩ := hv
  refine enter221 ?_
  unfold S221
  have H := Apt.nil w
  refine boxH H fun b1 w1 H => ?_
  rw [ldB_agg agg26 sz26 rfl (H.box 0 rfl)]
  refine isGrammar_c (gm := gm) ⟨Y, cy, rfl, hc, hy.gr H.gr⟩ fun w2 g2 => ?_
  have H := H.step g2
  cases hg : goodG gm
  · simp only [Bool.not_false, go_sem, Nat.reduceEqDiff]
    exact hk0 (by simp [askedT, hg]) _ _ _ H.gr
  simp only [Bool.not_true, go_sem, Nat.reduceEqDiff]
  by_cases hl : tree.length ≤ 60
  case neg =>
    simp only [show (60 : Int) < tree.length from by omega, decide_true, go_sem, Nat.reduceEqDiff]
    exact hk0 (by simp [askedT, hl]) _ _ _ H.gr
  simp only [show ¬ (60 : Int) < tree.length from by omega, decide_false, go_sem, Nat.reduceEqDiff]
  rw [ldB_agg agg26 sz26 rfl (H.box 0 rfl)]
  have G := H.gr
  refine tree_c hg hl ⟨Y, cy, rfl, hc, hy.gr H.gr⟩ (hx.gr H.gr) rfl (fun hz w3 v1 v2 g3 => ?_) fun p ws hz w3 b E W cw H3 => ?_
  · simp only [go_sem, Nat.reduceEqDiff]
    refine hk0 ?_ _ _ _ (gr_trans (gr_trans G g3) (gr_drew _))
    cases ha : askedT gm tree with
    | false => rfl
    | true =>
      obtain ⟨p, ws, hW⟩ := asked_whole.1 ha
      rw [hW.read] at hz
      cases hz
  · simp only [go_sem, Nat.reduceEqDiff]
    have H3 := H3.drew
    obtain ⟨Xp, cp, hb, _⟩ := (show PartAt E w3.drew p b from H3.get 1 rfl).box
    rw [ldB3 hb rfl]
    simp only [go_sem, Int.natCast_inj]
    have H4 := Apt.append (Apt.nil w |>.step G) H3
    by_cases hf : p.fin = tree.length
    · simp only [hf, decide_true]
      exact hk1 p ws ⟨hg, hl, hz, hf⟩ _ _ _ _ _ H4
    · simp only [hf, decide_false]
      refine hk0 ?_ _ _ _ H4.gr
      cases ha : askedT gm tree with
      | false => rfl
      | true =>
        obtain ⟨p', ws', hW⟩ := asked_whole.1 ha
        have := hW.read
        rw [hz] at this
        simp only [Option.some.injEq, Prod.mk.injEq] at this
        exact absurd (this.1 ▸ hW.fin) hf
theorem pti_lt {w w' : World} {L : List Thing} {i b : Nat} {E : Nat → Prop} {p : PT} (H : Apt w w' L) (hi : L[i]? = some (pti E p b)) : ∀ q, E q → q < w'.heap.size := fun q hq => (H.ok i _ hi).hi q hq
theorem implPumpOf_c {F : Nat → Prop} {w : World} {v : Value} {gm : Gram} {tree : List Int} {X : Option Addr} {n c : Nat} (hv : GramV F w v gm) (hx : Ints w X tree) (hn : n = tree.length) {k : Value → World → Prop}
    (hk : ∀ w' U d, Gr w w' → Own 3 w' w.heap.size U d (pumpOfV gm tree).1 → k (.tuple #[.slice U (pumpOfV gm tree).1.length d, .bool (pumpOfV gm tree).2]) w') :
    CallK Try.prog 110 [v, .slice X n c] k w := by
  subst hn
  obtain ⟨Y, cy, rfl, hc, hy⟩ := hv
  refine enter110 ?_
  unfold S110
  have H := Apt.nil w
  refine boxH H fun b1 w1 H => ?_
  rw [ldB_agg agg26 sz26 rfl (H.box 0 rfl)]
  unfold pumpOfV at hk
  have G1 := H.gr
  refine whole_c (gm := gm) (tree := tree) ⟨Y, cy, rfl, hc, hy.gr H.gr⟩ (hx.gr H.gr) rfl (fun ha w2 v1 v2 g2 => ?_) fun p ws hW w2 b E W cw H2 => ?_
  · simp only [go_sem, Bool.not_false]
    rw [whole_no ha] at hk
    exact hk _ none 0 (gr_trans G1 g2) (Row.nil _ _ _ _)
  rw [hW.eq] at hk
  simp only [go_sem, Bool.not_true]
  have H := H.append H2
  refine pump_c hW (pti_lt H (i := 2) rfl) (H.get 2 rfl) (fun he w3 g3 => ?_) fun i j he w3 bi bj g3 pi pj => ?_
  · have H := H.step g3
    simp only [he] at hk
    simp only [go_sem, Nat.reduceEqDiff]
    rw [bin_eql_ptr Try.underlying151]
    simp only [Option.isNone_none, go_sem, Nat.reduceEqDiff]
    exact hk _ none 0 H.gr (Row.nil _ _ _ _)
  · have H := (H.step g3).drew
    simp only [he] at hk
    simp only [go_sem, Nat.reduceEqDiff]
    rw [bin_eql_ptr Try.underlying151]
    simp only [Option.isNone_some, go_sem, Nat.reduceEqDiff]
    obtain ⟨hi, hij, hjf, hj, _⟩ := cuts_of hW he
    have lai := (hW.laid i hi).1
    have laj := (hW.laid j hj).1
    rw [← ptn_eq hi] at lai
    rw [← ptn_eq hj] at laj
    obtain ⟨Xi, ci, bxi, _⟩ := (PartAt.gr (gr_drew w3) _ _ pi).box
    obtain ⟨Xj, cj, bxj, _⟩ := (PartAt.gr (gr_drew w3) _ _ pj).box
    rw [ldB3 bxi rfl, ldB3 bxj rfl, ldB3 bxi rfl, ldB3 bxj rfl, ldB3 bxj rfl, ldB3 bxi rfl]
    rw [lai, laj, Nat.zero_add, Nat.zero_add]
    refine buildH H u27 inf3 (ints (pumpR p.parts i j)) (by decide) (by decide) (by simp [Instr.fill, madeCells, Value.cells, rng6, ints, pumpR]) rfl fun b5 w5 H => ?_
    exact hk _ _ 6 H.gr (H.row 3 rfl)
end Go.Proofs.Ytegcjkhebecgbaa

/- Bg: bodies of functions as terms of the frame calculus, printed by shgen.py of this repository. -/
set_option linter.unusedVariables false
set_option maxRecDepth 100000
namespace Go.Proofs.Ytegcjkhebecgbaa
open Go Go.Sh

/-! loop.example/g00758/spec.CountByLong -/
/-! loop.example/g00758/impl.CountByLong -/
/-! loop.example/g00758/spec.SameUpTo -/
/-! loop.example/g00758/impl.SameUpTo -/
/-! loop.example/g00758/spec.NearWord -/
/-! loop.example/g00758/impl.NearWord -/
/-! loop.example/g00758/spec.FirstUnlike -/
def S78 (v0 v1 v2 : Value) (k : Value → World → Prop) (w : World) : Prop :=
 Do Try.prog (sBox 26 v0) (fun t1 w2 =>
 Do Try.prog (sBox 26 v1) (fun t3 w4 =>
 Rd Try.prog (WS.at w4) (sLoad 26 t1) fun t5 =>
 CallK Try.prog 24 [t5, v2] (fun t6 w7 =>
 Rd Try.prog (WS.at w7) (sExtract t6 0) fun t8 =>
 Rd Try.prog (WS.at w7) (sExtract t6 1) fun t9 =>
 Rd Try.prog (WS.at w7) (sLoad 26 t3) fun t10 =>
 CallK Try.prog 24 [t10, v2] (fun t11 w12 =>
 Rd Try.prog (WS.at w12) (sExtract t11 0) fun t13 =>
 Rd Try.prog (WS.at w12) (sExtract t11 1) fun t14 =>
 Rd Try.prog (WS.at w12) (sUn .not t9) fun t15 =>
 GuardK t15 false (fun k w' => k t14 w') (fun t16 w17 =>
 GuardK t15 false (fun k w' => Rd Try.prog (WS.at w17) (sUn .not t16) fun v => k v w') (fun t18 w19 =>
 Rd Try.prog (WS.at w19) (sPick t15 (.bool true) t18) fun t20 =>
 GuardK t20 false (fun k w' => Rd Try.prog (WS.at w19) (sLoad 26 t1) fun v => k v w') (fun t21 w22 =>
 GuardK t20 false (fun k w' => Rd Try.prog (WS.at w22) (sLoad 26 t3) fun v => k v w') (fun t23 w24 =>
 GuardK t20 false (fun k w' => CallK Try.prog 170 [t21, t23] k w') (fun t25 w26 =>
 GuardK t20 false (fun k w' => Rd Try.prog (WS.at w26) (sUn .not t25) fun v => k v w') (fun t27 w28 =>
 Rd Try.prog (WS.at w28) (sPick t20 (.bool true) t27) fun t29 =>
 CondK t29
  (k (.tuple #[(.slice none 0 0), (.bool false)]) w28)
  (CallK Try.prog 198 [t8, t13] (fun t30 w31 =>
  Rd Try.prog (WS.at w31) (sExtract t30 0) fun t32 =>
  Rd Try.prog (WS.at w31) (sExtract t30 1) fun t33 =>
  k (.tuple #[t32, t33]) w31) w28)) w26) w24) w22) w19) w17) w12) w7) w4) w2) w
/-! loop.example/g00758/impl.FirstUnlike -/
/-! loop.example/g00758/spec.ShortWords -/
def pl24 : Plans := fun _ => ⟨false, [], .nil⟩
def S24 (v0 v1 : Value) (k : Value → World → Prop) (w : World) : Prop :=
 Do Try.prog (sBox 26 v0) (fun t1 w2 =>
 Rd Try.prog (WS.at w2) (sLoad 26 t1) fun t3 =>
 CallK Try.prog 127 [t3] (fun t4 w5 =>
 Rd Try.prog (WS.at w5) (sUn .not t4) fun t6 =>
 GuardK t6 false (fun k w' => k v1 w') (fun t7 w8 =>
 GuardK t6 false (fun k w' => CallK Try.prog 152 [t7, (.int .i64 0), (.int .i64 4)] k w') (fun t9 w10 =>
 GuardK t6 false (fun k w' => Rd Try.prog (WS.at w10) (sUn .not t9) fun v => k v w') (fun t11 w12 =>
 Rd Try.prog (WS.at w12) (sPick t6 (.bool true) t11) fun t13 =>
 CondK t13
  (k (.tuple #[(.slice none 0 0), (.bool false)]) w12)
  (Do Try.prog (sBuildSlice 35 1 [(0, (.slice none 0 0))]) (fun t14 w15 =>
  LoopF [22, 23, 24, 9, 27, 28, 29, 30, 31, 32, 11, 33, 34, 35, 36, 37, 38, 39, 40, 6, 12, 41, 42, 43, 44, 47, 48, 49, 50, 51, 52, 53, 54, 9, 45, 46, 12, 55, 29, 56, 7, 25, 26, 8] (fun Q16 f17 w18 =>
   Rd Try.prog (WS.at w18) (sBin .leq 3 false (f17 8) (f17 1)) fun t19 =>
   CondK t19
    (Rd Try.prog (WS.at w18) (sBuiltin .len #[35] 3 [false] [(f17 7)]) fun t20 =>
    LoopF [30, 31, 32, 11, 33, 34, 35, 36, 37, 38, 39, 40, 6, 12, 41, 42, 43, 44, 47, 48, 49, 50, 51, 52, 53, 54, 9, 45, 46, 12, 55, 29] (fun Q21 f22 w23 =>
     Rd Try.prog (WS.at w23) (sBin .lss 3 false (f22 29) (f22 28)) fun t24 =>
     CondK t24
      (Join (fun K25 =>
      Rd Try.prog (WS.at w23) (sIndexAddr 35 (f22 27) (f22 29)) fun t28 =>
      Rd Try.prog (WS.at w23) (sLoad 27 t28) fun t29 =>
      Join (fun K30 =>
      Rd Try.prog (WS.at w23) (sLoad 26 (f22 2)) fun t33 =>
      CallK Try.prog 153 [t33, (.int .i64 0), t29] (fun t34 w35 =>
      CondK t34
       (CallK Try.prog 158 [t29] (fun t36 w37 =>
       Do Try.prog (sBuildSlice 35 1 [(0, t36)]) (fun t38 w39 =>
       Do Try.prog (sBuiltin .append #[35, 35] 35 [false, false] [(f22 6), t38]) (fun t40 w41 =>
       K30 (F.upd (F.upd (F.upd (F.upd (F.upd (F.upd (F.upd (F.upd (F.upd (F.upd (F.upd (F.upd (F.upd f22 30 t24) 31 t28) 32 t29) 11 t29) 33 t33) 34 t29) 35 t34) 36 (f22 6)) 37 t29) 38 t36) 39 t38) 40 t40) 6 t40) w41) w39) w37) w35)
       (K30 (F.upd (F.upd (F.upd (F.upd (F.upd (F.upd (F.upd f22 30 t24) 31 t28) 32 t29) 11 t29) 33 t33) 34 t29) 35 t34) w35)) w23) (fun f31 w32 =>
      LoopF [41, 42, 43, 44, 47, 48, 49, 50, 51, 52, 53, 54, 9, 45, 46, 12] (fun Q42 f43 w44 =>
       Rd Try.prog (WS.at w44) (sFieldAddr 26 (f43 2) 1) fun t45 =>
       Rd Try.prog (WS.at w44) (sLoad 3 t45) fun t46 =>
       Rd Try.prog (WS.at w44) (sBin .lss 3 false (f43 12) t46) fun t47 =>
       CondK t47
        (CallK Try.prog 158 [(f43 11)] (fun t48 w49 =>
        Do Try.prog (sBuildSlice 27 1 [(0, (f43 12))]) (fun t50 w51 =>
        Do Try.prog (sBuiltin .append #[27, 27] 27 [false, false] [t48, t50]) (fun t52 w53 =>
        Do Try.prog (sBuildSlice 35 1 [(0, t52)]) (fun t54 w55 =>
        Do Try.prog (sBuiltin .append #[35, 35] 35 [false, false] [(f43 9), t54]) (fun t56 w57 =>
        Rd Try.prog (WS.at w57) (sBin .add 3 true (f43 12) (.int .i64 1)) fun t58 =>
        Q42 .normal (F.upd (F.upd (F.upd (F.upd (F.upd (F.upd (F.upd (F.upd (F.upd (F.upd (F.upd (F.upd (F.upd (F.upd (F.upd (F.upd f43 41 (f43 12)) 42 t45) 43 t46) 44 t47) 47 (f43 9)) 48 (f43 11)) 49 t48) 50 (f43 12)) 51 t50) 52 t52) 53 t54) 54 t56) 9 t56) 45 (f43 12)) 46 t58) 12 t58) w57) w55) w53) w51) w49) w44)
        (Q42 (.exit 4) (F.upd (F.upd (F.upd (F.upd f43 41 (f43 12)) 42 t45) 43 t46) 44 t47) w44))
       (blockQ 4 (blockQ 3 (seqQ K25 Q21)))
       (F.upd f31 12 (.int .i64 0)) w32)) (fun f26 w27 =>
      Rd Try.prog (WS.at w27) (sBin .add 3 true (f26 29) (.int .i64 1)) fun t61 =>
      Q21 .normal (F.upd (F.upd f26 55 t61) 29 t61) w27))
      (Q21 (.exit 2) (F.upd f22 30 t24) w23))
     (blockQ 2 (seqQ (fun f62 w63 =>
    Rd Try.prog (WS.at w63) (sBin .add 3 true (f62 8) (.int .i64 1)) fun t64 =>
    Q16 .normal (F.upd (F.upd (F.upd (F.upd (F.upd f62 56 (f62 9)) 7 (f62 9)) 25 (f62 8)) 26 t64) 8 t64) w63) (blockQ 1 (seqQ (fun f65 w66 =>
    Rd Try.prog (WS.at w66) (sBin .add 3 true (f65 8) (.int .i64 1)) fun t67 =>
    Q16 .normal (F.upd (F.upd (F.upd f65 25 (f65 8)) 26 t67) 8 t67) w66) Q16))))
     (F.upd (F.upd (F.upd (F.upd (F.upd (F.upd (F.upd f17 22 (f17 8)) 23 (f17 1)) 24 t19) 9 (.slice none 0 0)) 27 (f17 7)) 28 t20) 29 (.int .i64 0)) w18)
    (Q16 (.exit 0) (F.upd (F.upd (F.upd f17 22 (f17 8)) 23 (f17 1)) 24 t19) w18))
   (blockQ 0 (seqQ (fun f68 w69 =>
  k (.tuple #[(f68 6), (.bool true)]) w69) (bodyQ Try.prog [.tmp 4, .tmp 5] k)))
   (F.upd (F.upd (F.upd (F.upd (F.upd (F.upd (F.upd (F.upd (F.upd (F.upd (F.upd (F.upd (F.upd (F.upd (F.upd (initF [v0, v1]) 2 t1) 4 (.slice none 0 0)) 5 (.bool false)) 13 t3) 14 t4) 15 t6) 16 t6) 17 t7) 18 t9) 19 t11) 20 t13) 6 (.slice none 0 0)) 21 t14) 7 t14) 8 (.int .i64 0)) w15) w12)) w10) w8) w5) w2) w
theorem body24 : Try.f24.body = some (bodyOf Try.f24) := by kernel_rfl
theorem same24 (v0 v1 : Value) (k : Value → World → Prop) (w : World) : wpF Try.prog pl24 (bodyOf Try.f24) (bodyQ Try.prog Try.f24.results.toList k) (initF [v0, v1]) w = S24 v0 v1 k w := by kernel_rfl
theorem enter24 {v0 v1 : Value} {k : Value → World → Prop} {w : World} (h : S24 v0 v1 k w) : CallK Try.prog 24 [v0, v1] k w :=
  call_of_wpF (pl := pl24) mixed Try.func24 body24 (by kernel_rfl) (of_decide_eq_true (by kernel_rfl)) (by kernel_rfl) (by kernel_rfl) (Eq.mpr (same24 v0 v1 k w) h)

/-! loop.example/g00758/impl.ShortWords -/
/-! loop.example/g00758/spec.l20Unlike -/
/-! slices.EqualFunc[[][]int,[][]int,[]int,[]int] -/
/-! loop.example/g00758/impl.SameUpTo$1 -/
/-! loop.example/g00758/spec.l17Apart -/
/-! loop.example/g00758/impl.apart -/
/-! loop.example/g00758/impl.compareWords -/
/-! loop.example/g00758/impl.wordsOf -/
/-! loop.example/g00758/spec.l20Less -/
/-! loop.example/g00758/spec.l1Least -/
/-! cmp.Or[int] -/
/-! cmp.Compare[int] -/
def pl280 : Plans := fun _ => ⟨false, [], .nil⟩
def S280 (v0 v1 : Value) (k : Value → World → Prop) (w : World) : Prop :=
 CallK Try.prog 308 [v0] (fun t1 w2 =>
 CallK Try.prog 308 [v1] (fun t3 w4 =>
 CondK t1
  (CondK t3
   (k (.int .i64 0) w4)
   (k (.int .i64 (-1)) w4))
  (CondK t3
   (k (.int .i64 1) w4)
   (Rd Try.prog (WS.at w4) (sBin .lss 3 false v0 v1) fun t5 =>
   CondK t5
    (k (.int .i64 (-1)) w4)
    (Rd Try.prog (WS.at w4) (sBin .gtr 3 false v0 v1) fun t6 =>
    CondK t6
     (k (.int .i64 1) w4)
     (k (.int .i64 0) w4))))) w2) w
theorem body280 : Try.f280.body = some (bodyOf Try.f280) := by kernel_rfl
theorem same280 (v0 v1 : Value) (k : Value → World → Prop) (w : World) : wpF Try.prog pl280 (bodyOf Try.f280) (bodyQ Try.prog Try.f280.results.toList k) (initF [v0, v1]) w = S280 v0 v1 k w := by kernel_rfl
theorem enter280 {v0 v1 : Value} {k : Value → World → Prop} {w : World} (h : S280 v0 v1 k w) : CallK Try.prog 280 [v0, v1] k w :=
  call_of_wpF (pl := pl280) mixed Try.func280 body280 (by kernel_rfl) (of_decide_eq_true (by kernel_rfl)) (by kernel_rfl) (by kernel_rfl) (Eq.mpr (same280 v0 v1 k w) h)

/-! slices.Compare[[]int,int] -/
def pl281 : Plans := fun _ => ⟨false, [], .nil⟩
def S281 (v0 v1 : Value) (k : Value → World → Prop) (w : World) : Prop :=
 Rd Try.prog (WS.at w) (sBuiltin .len #[27] 3 [false] [v0]) fun t1 =>
 LoopF [12, 13, 14, 15, 5, 6, 16, 17, 18, 19, 4, 20, 21, 22, 23, 7, 24, 25, 26, 8, 27, 28, 29, 4, 30, 11] (fun Q2 f3 w4 =>
  Rd Try.prog (WS.at w4) (sBin .lss 3 false (f3 11) (f3 10)) fun t5 =>
  CondK t5
   (Rd Try.prog (WS.at w4) (sIndexAddr 27 (f3 9) (f3 11)) fun t6 =>
   Rd Try.prog (WS.at w4) (sLoad 3 t6) fun t7 =>
   Rd Try.prog (WS.at w4) (sBuiltin .len #[27] 3 [false] [(f3 1)]) fun t8 =>
   Rd Try.prog (WS.at w4) (sBin .geq 3 false (f3 11) t8) fun t9 =>
   CondK t9
    (Q2 .ret (F.upd (F.upd (F.upd (F.upd (F.upd (F.upd (F.upd (F.upd (F.upd (F.upd (F.upd f3 12 t5) 13 (f3 11)) 14 t6) 15 t7) 5 (f3 11)) 6 t7) 16 (f3 11)) 17 (f3 1)) 18 t8) 19 t9) 4 (.int .i64 1)) w4)
    (Rd Try.prog (WS.at w4) (sIndexAddr 27 (f3 1) (f3 11)) fun t10 =>
    Rd Try.prog (WS.at w4) (sLoad 3 t10) fun t11 =>
    CallK Try.prog 280 [t7, t11] (fun t12 w13 =>
    Rd Try.prog (WS.at w13) (sBin .neq 3 true t12 (.int .i64 0)) fun t14 =>
    CondK t14
     (Q2 .ret (F.upd (F.upd (F.upd (F.upd (F.upd (F.upd (F.upd (F.upd (F.upd (F.upd (F.upd (F.upd (F.upd (F.upd (F.upd (F.upd (F.upd (F.upd (F.upd (F.upd (F.upd (F.upd (F.upd f3 12 t5) 13 (f3 11)) 14 t6) 15 t7) 5 (f3 11)) 6 t7) 16 (f3 11)) 17 (f3 1)) 18 t8) 19 t9) 20 (f3 1)) 21 (f3 11)) 22 t10) 23 t11) 7 t11) 24 t7) 25 t11) 26 t12) 8 t12) 27 t12) 28 t14) 29 t12) 4 t12) w13)
     (Rd Try.prog (WS.at w13) (sBin .add 3 true (f3 11) (.int .i64 1)) fun t15 =>
     Q2 .normal (F.upd (F.upd (F.upd (F.upd (F.upd (F.upd (F.upd (F.upd (F.upd (F.upd (F.upd (F.upd (F.upd (F.upd (F.upd (F.upd (F.upd (F.upd (F.upd (F.upd (F.upd (F.upd (F.upd f3 12 t5) 13 (f3 11)) 14 t6) 15 t7) 5 (f3 11)) 6 t7) 16 (f3 11)) 17 (f3 1)) 18 t8) 19 t9) 20 (f3 1)) 21 (f3 11)) 22 t10) 23 t11) 7 t11) 24 t7) 25 t11) 26 t12) 8 t12) 27 t12) 28 t14) 30 t15) 11 t15) w13)) w4))
   (Q2 (.exit 0) (F.upd f3 12 t5) w4))
  (blockQ 0 (seqQ (fun f16 w17 =>
 Rd Try.prog (WS.at w17) (sBuiltin .len #[27] 3 [false] [(f16 0)]) fun t18 =>
 Rd Try.prog (WS.at w17) (sBuiltin .len #[27] 3 [false] [(f16 1)]) fun t19 =>
 Rd Try.prog (WS.at w17) (sBin .lss 3 false t18 t19) fun t20 =>
 CondK t20
  (k (.int .i64 (-1)) w17)
  (k (.int .i64 0) w17)) (bodyQ Try.prog [.tmp 4] k)))
  (F.upd (F.upd (F.upd (F.upd (initF [v0, v1]) 4 (.int .i64 0)) 9 v0) 10 t1) 11 (.int .i64 0)) w
theorem body281 : Try.f281.body = some (bodyOf Try.f281) := by kernel_rfl
theorem same281 (v0 v1 : Value) (k : Value → World → Prop) (w : World) : wpF Try.prog pl281 (bodyOf Try.f281) (bodyQ Try.prog Try.f281.results.toList k) (initF [v0, v1]) w = S281 v0 v1 k w := by kernel_rfl
theorem enter281 {v0 v1 : Value} {k : Value → World → Prop} {w : World} (h : S281 v0 v1 k w) : CallK Try.prog 281 [v0, v1] k w :=
  call_of_wpF (pl := pl281) mixed Try.func281 body281 (by kernel_rfl) (of_decide_eq_true (by kernel_rfl)) (by kernel_rfl) (by kernel_rfl) (Eq.mpr (same281 v0 v1 k w) h)

/-! loop.example/g00758/spec.l5Less -/
/-! cmp.isNaN[int] -/
def pl308 : Plans := fun _ => ⟨false, [], .nil⟩
def S308 (v0 : Value) (k : Value → World → Prop) (w : World) : Prop :=
 Rd Try.prog (WS.at w) (sBin .neq 3 false v0 v0) fun t1 =>
 k t1 w
theorem body308 : Try.f308.body = some (bodyOf Try.f308) := by kernel_rfl
theorem same308 (v0 : Value) (k : Value → World → Prop) (w : World) : wpF Try.prog pl308 (bodyOf Try.f308) (bodyQ Try.prog Try.f308.results.toList k) (initF [v0]) w = S308 v0 k w := by kernel_rfl
theorem enter308 {v0 : Value} {k : Value → World → Prop} {w : World} (h : S308 v0 k w) : CallK Try.prog 308 [v0] k w :=
  call_of_wpF (pl := pl308) mixed Try.func308 body308 (by kernel_rfl) (of_decide_eq_true (by kernel_rfl)) (by kernel_rfl) (by kernel_rfl) (Eq.mpr (same308 v0 k w) h)

end Go.Proofs.Ytegcjkhebecgbaa

/- Contract: all short words of a language, by the reference. -/
set_option linter.unusedVariables false
set_option linter.unusedSimpArgs false
set_option maxRecDepth 100000
namespace Go.Sh
open Go
def extW (toks : Nat) (w : List Int) : List (List Int) := (List.range toks).map fun (t : Nat) => w ++ [(t : Int)]
def wordsN (toks : Nat) : Nat → List (List Int)
  | 0 => [[]]
  | n + 1 => (wordsN toks n).flatMap (extW toks)
noncomputable def shortW (gm : Gram) (n : Nat) : List (List Int) := (List.range n).flatMap fun m => (wordsN gm.toks.toNat m).filter (inL gm.rules)
noncomputable def shortV (gm : Gram) (most : Int) : List (List Int) × Bool := if (goodG gm && inB most 0 4) = true then (shortW gm (most.toNat + 1), true) else ([], false)
theorem flatMap_len {α β : Type} {f : α → List β} {k : Nat} : ∀ {l : List α}, (∀ a ∈ l, (f a).length = k) → (l.flatMap f).length = l.length * k := by
  intro l
  induction l with
  | nil => intro _; simp
  | cons a l ih =>
    intro h
    rw [List.flatMap_cons, List.length_append, h a (List.mem_cons_self ..), ih fun b hb => h b (List.mem_cons_of_mem _ hb), List.length_cons, Nat.succ_mul]
    omega
theorem wordsN_length (toks n : Nat) : (wordsN toks n).length = toks ^ n := by
  induction n with
  | zero => rfl
  | succ n ih =>
    rw [wordsN, flatMap_len (k := toks) (fun w _ => by simp [extW]), ih, Nat.pow_succ]
theorem wordsN_le {toks n : Nat} (ht : toks ≤ 4) (hn : n ≤ 5) : (wordsN toks n).length ≤ 1024 := by
  rw [wordsN_length]
  have h1 : toks ^ n ≤ 4 ^ n := Nat.pow_le_pow_left ht n
  have h2 : 4 ^ n ≤ 4 ^ 5 := Nat.pow_le_pow_right (by decide) hn
  have : (4 : Nat) ^ 5 = 1024 := rfl
  omega
theorem wordsN_mem {toks : Nat} : ∀ {n : Nat} {w : List Int}, w ∈ wordsN toks n → w.length = n ∧ ∀ t ∈ w, 0 ≤ t ∧ t < toks := by
  intro n
  induction n with
  | zero =>
    intro w h
    simp only [wordsN, List.mem_singleton] at h
    subst h
    exact ⟨rfl, fun t h => by simp at h⟩
  | succ n ih =>
    intro w h
    simp only [wordsN, List.mem_flatMap, extW, List.mem_map, List.mem_range] at h
    obtain ⟨v, hv, t, ht, rfl⟩ := h
    obtain ⟨h1, h2⟩ := ih hv
    refine ⟨by simp [h1], fun x hx => ?_⟩
    rcases List.mem_append.1 hx with hx | hx
    · exact h2 x hx
    · have : x = t := by simpa using hx
      subst this
      omega
theorem rgt_mem {ls : List (List Int)} {i : Nat} (h : i < ls.length) : rgt ls i ∈ ls := by
  rw [rgt_eq h]
  exact List.getElem_mem h
theorem filter_snoc (p : List Int → Bool) (ls : List (List Int)) (l : List Int) : (ls ++ [l]).filter p = ls.filter p ++ (if p l = true then [l] else []) := by
  rw [List.filter_append]
  congr 1
  cases h : p l <;> simp [h]
theorem filter_le (p : List Int → Bool) (ls : List (List Int)) : (ls.filter p).length ≤ ls.length := List.length_filter_le _ _
theorem shortW_succ (gm : Gram) (n : Nat) : shortW gm (n + 1) = shortW gm n ++ (wordsN gm.toks.toNat n).filter (inL gm.rules) := by
  unfold shortW
  rw [List.range_succ, List.flatMap_append]
  simp
theorem shortW_len {gm : Gram} (ht : gm.toks ≤ 4) : ∀ {n : Nat}, n ≤ 6 → (shortW gm n).length ≤ 1024 * n := by
  intro n
  induction n with
  | zero => intro _; simp [shortW]
  | succ n ih =>
    intro hn
    rw [shortW_succ, List.length_append]
    have h1 := ih (by omega)
    have h2 := filter_le (inL gm.rules) (wordsN gm.toks.toNat n)
    have h3 := wordsN_le (toks := gm.toks.toNat) (n := n) (by omega) (by omega)
    omega
theorem shortW_mem {gm : Gram} {n : Nat} {x : List Int} (h : x ∈ shortW gm n) : x.length < n ∧ ∀ t ∈ x, 0 ≤ t ∧ t < gm.toks.toNat := by
  unfold shortW at h
  rw [List.mem_flatMap] at h
  obtain ⟨m, hm, hx⟩ := h
  rw [List.mem_range] at hm
  have := wordsN_mem (List.mem_filter.1 hx).1
  exact ⟨by omega, this.2⟩
theorem extW_succ (toks : Nat) (w : List Int) : extW (toks + 1) w = extW toks w ++ [w ++ [(toks : Int)]] := by
  unfold extW
  rw [List.range_succ, List.map_append]
  rfl
theorem flatMap_snoc {α β : Type} (f : α → List β) (ls : List α) (l : α) : (ls ++ [l]).flatMap f = ls.flatMap f ++ f l := by
  rw [List.flatMap_append]
  simp
theorem flatMap_take_le {ls : List (List Int)} {k : Nat} (i : Nat) : ((ls.take i).flatMap (extW k)).length ≤ ls.length * k := by
  rw [flatMap_len (k := k) (fun w _ => by simp [extW]), List.length_take]
  exact Nat.mul_le_mul_right _ (Nat.min_le_right _ _)
end Go.Sh
namespace Go.Proofs.Ytegcjkhebecgbaa
open Go Go.Sh Go.RowKit

theorem specShortWords_c {F : Nat → Prop} {w : World} {v : Value} {gm : Gram} {most : Int} (hv : GramV F w v gm) {k : Value → World → Prop}
    (hk : ∀ w' U d ps, Gr w w' → OwnSS 27 3 w' w.heap.size U d (shortV gm most).1 ps → k (.tuple #[.slice U (shortV gm most).1.length d, .bool (shortV gm most).2]) w') :
    CallK Try.prog 24 [v, .int .i64 most] k w := by
  obtain ⟨Y, cy, rfl, hc, hy⟩ := hv
  refine enter24 ?_
  unfold S24
  have H := Apt.nil w
  refine boxH H fun b1 w1 H => ?_
  rw [ldB_agg agg26 sz26 rfl (H.box 0 rfl)]
  refine goodGrammar_c (gm := gm) ⟨Y, cy, rfl, hc, hy.gr H.gr⟩ fun w2 g2 => ?_
  have H := H.step g2
  unfold shortV at hk
  cases hg : goodG gm
  · simp only [Bool.not_false, go_sem, Nat.reduceEqDiff]
    rw [hg, Bool.false_and, if_neg Bool.false_ne_true] at hk
    exact hk _ none 0 (fun _ => (none, 0)) H.gr (OwnSS.nil _ _ _ _ _)
  simp only [Bool.not_true, go_sem, Nat.reduceEqDiff]
  refine l1In_c ?_
  rw [hg, Bool.true_and] at hk
  cases hm : inB most 0 4
  · simp only [Bool.not_false, go_sem, Nat.reduceEqDiff]
    rw [hm, if_neg Bool.false_ne_true] at hk
    exact hk _ none 0 (fun _ => (none, 0)) H.gr (OwnSS.nil _ _ _ _ _)
  rw [hm, if_pos rfl] at hk
  obtain ⟨most, rfl⟩ : ∃ m' : Nat, most = m' := by
    simp only [inB, Bool.and_eq_true, decide_eq_true_eq] at hm
    exact ⟨most.toNat, by omega⟩
  have hm4 : most ≤ 4 := by
    simp only [inB, Bool.and_eq_true, decide_eq_true_eq] at hm
    omega
  rw [Int.toNat_natCast] at hk
  dsimp only at hk
  have htk := good_toks hg
  obtain ⟨toks, htoks⟩ : ∃ t : Nat, gm.toks = t := ⟨gm.toks.toNat, by omega⟩
  have htn : gm.toks.toNat = toks := by omega
  simp only [Bool.not_true, go_sem, Nat.reduceEqDiff]
  refine buildH H u35 inf27 [.slice none 0 0] (by decide) (by decide) (by simp [Instr.fill, madeCells, Value.cells, rng1]) rfl fun b2 w3 H => ?_
  have H := (H.addNil 3 1).single (i := 1) (j := 2) (by decide) (e2 := 3) (ys := []) rfl rfl
  have H := ((H.addNil 27 1).emptySS 3 (e2 := 3) (fun _ => (none, 0)) rfl).erase 2
  simp only [List.nil_append, List.cons_append, List.set_cons_zero, List.set_cons_succ, List.eraseIdx_cons_zero, List.eraseIdx_cons_succ] at H
  refine loop_to (most + 1) 0 (fun n f w' => n ≤ most + 1 ∧ f 8 = .int .i64 n ∧ ∃ (U V : Option Addr) (d e : Nat) (ps qs : Nat → Option Addr × Nat), f 7 = .slice U (wordsN toks n).length d ∧ f 6 = .slice V (shortW gm n).length e ∧
      Apt w w' [bx b1 [.int .i64 gm.nons, .int .i64 gm.toks, .slice Y gm.rules.length cy] 26, lss U d (wordsN toks n) ps, lss V e (shortW gm n) qs])
    ⟨Nat.zero_le _, rfl, _, none, _, 0, _, _, rfl, rfl, H⟩ ?_
  rintro n f w4 N hag ⟨hn, h8, U, V, d, e, ps, qs, h7, h6, H⟩ hN
  have f1 : f 1 = .int .i64 most := hag 1 (by decide)
  have f2 : f 2 = ptrv b1 := hag 2 (by decide)
  simp only [f1, h8, h7, h6, go_sem, Nat.reduceEqDiff]
  by_cases hle : n ≤ most
  case neg =>
    simp only [show ¬ ((n : Int) ≤ most) from by omega, decide_false, go_sem, Nat.reduceEqDiff]
    obtain rfl : n = most + 1 := by omega
    exact hk _ V e qs H.gr (H.lssi 2 rfl)
  simp only [show ((n : Int) ≤ most) from by omega, decide_true, go_sem, Nat.reduceEqDiff]
  have hwl := wordsN_le (toks := toks) (n := n) (by omega) (by omega)
  have hwm := fun w => @wordsN_mem toks n w
  have hsl := shortW_len (gm := gm) htk.2 (n := n) (by omega)
  have hnext : wordsN toks (n + 1) = (wordsN toks n).flatMap (extW toks) := rfl
  have hshort := shortW_succ gm n
  rw [htn] at hshort
  generalize wordsN toks n = ls at *
  generalize shortW gm n = so at *
  have H := (H.addNil 27 1).emptySS 3 (e2 := 3) (fun _ => (none, 0)) rfl
  simp only [List.nil_append, List.cons_append, List.set_cons_zero, List.set_cons_succ] at H
  refine loop_to ls.length 0 (fun i f w' => i ≤ ls.length ∧ f 29 = .int .i64 i ∧ ∃ (V X : Option Addr) (e c : Nat) (qs rs : Nat → Option Addr × Nat), f 6 = .slice V (so ++ (ls.take i).filter (inL gm.rules)).length e ∧ f 9 = .slice X ((ls.take i).flatMap (extW toks)).length c ∧
      Apt w w' [bx b1 [.int .i64 gm.nons, .int .i64 gm.toks, .slice Y gm.rules.length cy] 26, lss U d ls ps, lss V e (so ++ (ls.take i).filter (inL gm.rules)) qs, lss X c ((ls.take i).flatMap (extW toks)) rs])
    ⟨Nat.zero_le _, rfl, V, none, e, 0, qs, _, by simp; exact h6, rfl, by simpa using H⟩ ?_
  rintro i g w5 N2 hag2 ⟨hi, h29, V, X, e, c, qs, rs, h6, h9, H⟩ hN2
  have g27 : g 27 = .slice U ls.length d := hag2 27 (by decide)
  have g28 : g 28 = .int .i64 ls.length := hag2 28 (by decide)
  have g2' : g 2 = ptrv b1 := (hag2 2 (by decide)).trans f2
  have g8 : g 8 = .int .i64 n := (hag2 8 (by decide)).trans h8
  simp only [g27, g28, g2', g8, h29, h6, h9, go_sem, Nat.reduceEqDiff]
  by_cases hlt : i < ls.length
  case neg =>
    simp only [show ¬ ((i : Int) < ls.length) from by omega, decide_false, go_sem, Nat.reduceEqDiff]
    rw [List.take_of_length_le (by omega)] at H h9 h6 ⊢
    rw [i64_of (by omega) (by omega)]
    refine hN _ _ (by omega) ⟨by omega, rfl, X, V, c, e, rs, qs, ?_, ?_, ?_⟩
    · rw [hnext]
      exact rfl
    · rw [hshort]
      exact h6
    · rw [hnext, hshort]
      exact ((H.erase 1).pick (L' := [_, _, _]) (fun i => [0, 2, 1].getD i 0) (fun i a ha => by
        match i, ha with
        | 0, ha => exact ha
        | 1, ha => exact ha
        | 2, ha => exact ha
        | i + 3, ha => simp at ha) (fun i j hi hj e => by
        simp only [List.length_cons, List.length_nil] at hi hj
        match i, j, hi, hj, e with
        | 0, 0, _, _, _ | 1, 1, _, _, _ | 2, 2, _, _, _ => rfl
        | 0, 1, _, _, e | 0, 2, _, _, e | 1, 0, _, _, e | 1, 2, _, _, e | 2, 0, _, _, e | 2, 1, _, _, e => exact absurd e (by decide)
        | i + 3, _, h, _, _ => omega
        | _, j + 3, _, h, _ => omega))
  simp only [show ((i : Int) < ls.length) from by omega, decide_true, go_sem, Nat.reduceEqDiff]
  have o := H.lssi 1 rfl
  have hm2 := hwm _ (rgt_mem hlt)
  have hwi := (o.own i hlt).ints
  have hfl := filter_le (inL gm.rules) (ls.take i)
  rw [List.length_take] at hfl
  have hflat := flatMap_take_le (ls := ls) (k := toks) i
  have hmul : ls.length * toks ≤ 1024 * 4 := Nat.mul_le_mul hwl (by omega)
  have hel : ∀ t, (extW t (rgt ls i)).length = t := fun t => by simp [extW]
  refine rdi (ixn35 (fun h => o.ptr h) hlt) ?_
  refine rdi (ld27 (o.cell hlt)) ?_
  refine rdi (ldB_agg agg26 sz26 rfl (H.box 0 rfl)) ?_
  refine l4In_c (gm := gm) ⟨Y, cy, rfl, hc, hy.gr H.gr⟩ hg hwi rfl (by omega) fun w6 g6 => ?_
  have H := H.step g6
  have o := H.lssi 1 rfl
  have hwi := (o.own i hlt).ints
  cases hin : inL gm.rules (rgt ls i)
  · simp only [go_sem, Nat.reduceEqDiff]
    have hso : so ++ (ls.take (i + 1)).filter (inL gm.rules) = so ++ (ls.take i).filter (inL gm.rules) := by
      rw [take_snoc_rgt hlt, filter_snoc, hin, if_neg Bool.false_ne_true, List.append_nil]
    rw [← hso] at H
    refine loop_to toks 0 (fun t f w' => t ≤ toks ∧ f 12 = .int .i64 t ∧ ∃ (X : Option Addr) (c : Nat) (rs : Nat → Option Addr × Nat), f 9 = .slice X ((ls.take i).flatMap (extW toks) ++ extW t (rgt ls i)).length c ∧
        Apt w w' [bx b1 [.int .i64 gm.nons, .int .i64 gm.toks, .slice Y gm.rules.length cy] 26, lss U d ls ps, lss V e (so ++ (ls.take (i + 1)).filter (inL gm.rules)) qs, lss X c ((ls.take i).flatMap (extW toks) ++ extW t (rgt ls i)) rs])
      ⟨Nat.zero_le _, rfl, X, c, rs, by simp only [extW, List.range_zero, List.map_nil, List.append_nil]; exact h9, by simpa only [extW, List.range_zero, List.map_nil, List.append_nil] using H⟩ ?_
    rintro t r w7 N3 hag3 ⟨ht, r12, X, c, rs, r9, H⟩ hN3
    have r2 : r 2 = ptrv b1 := (hag3 2 (by decide)).trans g2'
    have r11 : r 11 = .slice (ps i).1 (rgt ls i).length (ps i).2 := hag3 11 (by decide)
    have r6 : r 6 = .slice V (so ++ (ls.take (i + 1)).filter (inL gm.rules)).length e := by
      rw [hso]
      exact (hag3 6 (by decide)).trans h6
    have r29 : r 29 = .int .i64 i := (hag3 29 (by decide)).trans h29
    simp only [r2, r11, r12, r9, go_sem, Nat.reduceEqDiff]
    rw [ldB3 (H.box 0 rfl) rfl]
    simp only [go_sem, Nat.reduceEqDiff]
    by_cases hlt2 : t < toks
    case neg =>
      simp only [show ¬ ((t : Int) < gm.toks) from by omega, decide_false, r29, go_sem, Nat.reduceEqDiff]
      rw [i64_of (by omega) (by omega)]
      obtain rfl : t = toks := by omega
      refine hN2 _ _ hlt ⟨by omega, rfl, V, X, e, c, qs, rs, r6, ?_, ?_⟩
      · rw [take_snoc_rgt hlt, flatMap_snoc]
        exact r9
      · rw [show (ls.take (i + 1)).flatMap (extW t) = (ls.take i).flatMap (extW t) ++ extW t (rgt ls i) from by rw [take_snoc_rgt hlt, flatMap_snoc]]
        exact H
    simp only [show ((t : Int) < gm.toks) from by omega, decide_true, go_sem, Nat.reduceEqDiff]
    have o := H.lssi 1 rfl
    have hwi := (o.own i hlt).ints
    refine l1Own_c hwi rfl (by omega) fun X1 d1 w8 g8 o1 => ?_
    have H := H.addRow g8 o1
    simp only [List.nil_append, List.cons_append] at H
    refine pushH H 4 rfl rfl (by omega) fun t1 X2 d2 w9 H => ?_
    simp only [List.set_cons_zero, List.set_cons_succ] at H
    refine pushSSH H 3 4 (by decide) rfl rfl rfl rfl (by rw [List.length_append, hel]; omega) fun t2 X3 c3 w10 rs3 H => ?_
    have H := H.erase 4
    simp only [List.set_cons_zero, List.set_cons_succ, List.eraseIdx_cons_zero, List.eraseIdx_cons_succ] at H
    rw [i64_of (by omega) (by omega)]
    refine hN3 _ _ hlt2 ⟨by omega, rfl, X3, c3, rs3, ?_, ?_⟩
    · rw [extW_succ, ← List.append_assoc]
      rfl
    · rw [extW_succ, ← List.append_assoc]
      exact H
  · simp only [go_sem, Nat.reduceEqDiff]
    have hso : so ++ (ls.take (i + 1)).filter (inL gm.rules) = so ++ (ls.take i).filter (inL gm.rules) ++ [rgt ls i] := by
      rw [take_snoc_rgt hlt, filter_snoc, hin, if_pos rfl, List.append_assoc]
    refine l1Own_c hwi rfl (by omega) fun X1 d1 w7 g7 o1 => ?_
    have H := H.addRow g7 o1
    simp only [List.nil_append, List.cons_append] at H
    refine pushSSH H 2 4 (by decide) rfl rfl rfl rfl (by rw [List.length_append]; omega) fun t V' e' w8 qs' H => ?_
    have H := H.erase 4
    simp only [List.set_cons_zero, List.set_cons_succ, List.eraseIdx_cons_zero, List.eraseIdx_cons_succ] at H
    rw [← hso] at H
    refine loop_to toks 0 (fun t f w' => t ≤ toks ∧ f 12 = .int .i64 t ∧ ∃ (X : Option Addr) (c : Nat) (rs : Nat → Option Addr × Nat), f 9 = .slice X ((ls.take i).flatMap (extW toks) ++ extW t (rgt ls i)).length c ∧
        Apt w w' [bx b1 [.int .i64 gm.nons, .int .i64 gm.toks, .slice Y gm.rules.length cy] 26, lss U d ls ps, lss V' e' (so ++ (ls.take (i + 1)).filter (inL gm.rules)) qs', lss X c ((ls.take i).flatMap (extW toks) ++ extW t (rgt ls i)) rs])
      ⟨Nat.zero_le _, rfl, X, c, rs, by simp only [extW, List.range_zero, List.map_nil, List.append_nil]; exact h9, by simpa only [extW, List.range_zero, List.map_nil, List.append_nil] using H⟩ ?_
    rintro t r w7 N3 hag3 ⟨ht, r12, X, c, rs, r9, H⟩ hN3
    have r2 : r 2 = ptrv b1 := (hag3 2 (by decide)).trans g2'
    have r11 : r 11 = .slice (ps i).1 (rgt ls i).length (ps i).2 := hag3 11 (by decide)
    have r6 : r 6 = .slice V' (so ++ (ls.take (i + 1)).filter (inL gm.rules)).length e' := by
      rw [hso]
      exact hag3 6 (by decide)
    have r29 : r 29 = .int .i64 i := (hag3 29 (by decide)).trans h29
    simp only [r2, r11, r12, r9, go_sem, Nat.reduceEqDiff]
    rw [ldB3 (H.box 0 rfl) rfl]
    simp only [go_sem, Nat.reduceEqDiff]
    by_cases hlt2 : t < toks
    case neg =>
      simp only [show ¬ ((t : Int) < gm.toks) from by omega, decide_false, r29, go_sem, Nat.reduceEqDiff]
      rw [i64_of (by omega) (by omega)]
      obtain rfl : t = toks := by omega
      refine hN2 _ _ hlt ⟨by omega, rfl, V', X, e', c, qs', rs, r6, ?_, ?_⟩
      · rw [take_snoc_rgt hlt, flatMap_snoc]
        exact r9
      · rw [show (ls.take (i + 1)).flatMap (extW t) = (ls.take i).flatMap (extW t) ++ extW t (rgt ls i) from by rw [take_snoc_rgt hlt, flatMap_snoc]]
        exact H
    simp only [show ((t : Int) < gm.toks) from by omega, decide_true, go_sem, Nat.reduceEqDiff]
    have o := H.lssi 1 rfl
    have hwi := (o.own i hlt).ints
    refine l1Own_c hwi rfl (by omega) fun X1 d1 w8 g8 o1 => ?_
    have H := H.addRow g8 o1
    simp only [List.nil_append, List.cons_append] at H
    refine pushH H 4 rfl rfl (by omega) fun t1 X2 d2 w9 H => ?_
    simp only [List.set_cons_zero, List.set_cons_succ] at H
    refine pushSSH H 3 4 (by decide) rfl rfl rfl rfl (by rw [List.length_append, hel]; omega) fun t2 X3 c3 w10 rs3 H => ?_
    have H := H.erase 4
    simp only [List.set_cons_zero, List.set_cons_succ, List.eraseIdx_cons_zero, List.eraseIdx_cons_succ] at H
    rw [i64_of (by omega) (by omega)]
    refine hN3 _ _ hlt2 ⟨by omega, rfl, X3, c3, rs3, ?_, ?_⟩
    · rw [extW_succ, ← List.append_assoc]
      rfl
    · rw [extW_succ, ← List.append_assoc]
      exact H
end Go.Proofs.Ytegcjkhebecgbaa

/- Contracts: words of so many tokens, and all short words of a language, by the program. -/
set_option linter.unusedVariables false
set_option linter.unusedSimpArgs false
set_option maxRecDepth 100000
namespace Go.Sh
open Go
/-- Slices of numbers of which those from place n on are the call's own still. -/
structure OwnSF (e1 e2 : Nat) (w : World) (B : Nat) (X : Option Addr) (c : Nat) (ls : List (List Int)) (ps : Nat → Option Addr × Nat) (n : Nat) : Prop where
  row : ∃ cells, Row w B e1 1 X ls.length c cells ∧ ∀ j, j < ls.length → cells[j]? = some (.slice (ps j).1 (rgt ls j).length (ps j).2)
  own : ∀ j, n ≤ j → j < ls.length → Own e2 w B (ps j).1 (ps j).2 (rgt ls j)
  two : ∀ i j, n ≤ i → n ≤ j → i < ls.length → j < ls.length → i ≠ j → blk (ps i).1 = none ∨ blk (ps i).1 ≠ blk (ps j).1
def FootF (X : Option Addr) (ps : Nat → Option Addr × Nat) (n m : Nat) (q : Nat) : Prop := blk X = some q ∨ ∃ l, n ≤ l ∧ l < m ∧ blk (ps l).1 = some q
section
variable {e1 e2 c n B : Nat} {w w' w0 : World} {X : Option Addr} {ls : List (List Int)} {ps : Nat → Option Addr × Nat} {L : List Thing}
theorem OwnSF.same (h : OwnSF e1 e2 w B X c ls ps n) (hs : ∀ q, FootF X ps n ls.length q → w'.heap[q]? = w.heap[q]?) : OwnSF e1 e2 w' B X c ls ps n := by
  obtain ⟨⟨cells, hr, hc⟩, ho, ht⟩ := h
  exact ⟨⟨cells, hr.same fun q hq => hs q (.inl hq), hc⟩, fun j hn hj => Row.same (ho j hn hj) fun q hq => hs q (.inr ⟨j, hn, hj, hq⟩), ht⟩
theorem OwnSF.up {B' : Nat} (h : OwnSF e1 e2 w B X c ls ps n) (hs : ∀ q, FootF X ps n ls.length q → B' ≤ q) : OwnSF e1 e2 w B' X c ls ps n := by
  obtain ⟨⟨cells, hr, hc⟩, ho, ht⟩ := h
  exact ⟨⟨cells, hr.up fun q hq => hs q (.inl hq), hc⟩, fun j hn hj => Row.up (ho j hn hj) fun q hq => hs q (.inr ⟨j, hn, hj, hq⟩), ht⟩
theorem OwnSF.mono {B' : Nat} (h : OwnSF e1 e2 w B X c ls ps n) (hb : B' ≤ B) : OwnSF e1 e2 w B' X c ls ps n := by
  obtain ⟨⟨cells, hr, hc⟩, ho, ht⟩ := h
  exact ⟨⟨cells, Row.mono hr hb, hc⟩, fun j hn hj => Row.mono (ho j hn hj) hb, ht⟩
theorem OwnSF.foot (h : OwnSF e1 e2 w B X c ls ps n) {q : Nat} (hq : FootF X ps n ls.length q) : B ≤ q ∧ q < w.heap.size := by
  obtain ⟨⟨cells, hr, hc⟩, ho, ht⟩ := h
  rcases hq with hq | ⟨l, hn, hl, hq⟩
  · exact hr.ge hq
  · exact Row.ge (ho l hn hl) hq
theorem OwnSF.ptr (h : OwnSF e1 e2 w B X c ls ps n) (hl : 0 < ls.length) : X = some (ad X) := by
  obtain ⟨⟨cells, hr, hc⟩, _⟩ := h
  exact hr.ptr hl
theorem OwnSF.cell (h : OwnSF e1 e2 w B X c ls ps n) {j : Nat} (hj : j < ls.length) : w.cell? ((ad X).add j) = some (.slice (ps j).1 (rgt ls j).length (ps j).2) := by
  obtain ⟨⟨cells, hr, hc⟩, _⟩ := h
  exact hr.src.cell _ _ (hc j hj)
end
end Go.Sh
namespace Go.Proofs.Ytegcjkhebecgbaa
open Go Go.Sh Go.RowKit
end Go.Proofs.Ytegcjkhebecgbaa

/- Contract: what comes again and again, by the program. -/
set_option linter.unusedVariables false
set_option linter.unusedSimpArgs false
set_option maxRecDepth 100000
namespace Go.Proofs.Ytegcjkhebecgbaa
open Go Go.Sh Go.RowKit

end Go.Proofs.Ytegcjkhebecgbaa

/- Bm: bodies of functions as terms of the frame calculus, printed by shgen.py of this repository. -/
set_option linter.unusedVariables false
set_option maxRecDepth 100000
namespace Go.Proofs.Ytegcjkhebecgbaa
open Go Go.Sh

/-! loop.example/g00758/spec.l20Two -/
end Go.Proofs.Ytegcjkhebecgbaa

/- Contract: whether two grammars may be set beside each other (the reference's l20Two). -/
set_option linter.unusedVariables false
set_option linter.unusedSimpArgs false
set_option maxRecDepth 100000
namespace Go.Sh
open Go
end Go.Sh
namespace Go.Proofs.Ytegcjkhebecgbaa
open Go Go.Sh Go.RowKit

end Go.Proofs.Ytegcjkhebecgbaa

/- Contracts: words in order, the first unlike word of two lists (the reference), equal lists (the program's library). -/
set_option linter.unusedVariables false
set_option linter.unusedSimpArgs false
set_option maxRecDepth 100000
namespace Go.Sh
open Go
end Go.Sh
namespace Go.Proofs.Ytegcjkhebecgbaa
open Go Go.Sh Go.RowKit
end Go.Proofs.Ytegcjkhebecgbaa

/- Contracts: equal lists (the program's library), SameUpTo of the reference and of the program. -/
set_option linter.unusedVariables false
set_option linter.unusedSimpArgs false
set_option maxRecDepth 100000
namespace Go.Sh
open Go
end Go.Sh
namespace Go.Proofs.Ytegcjkhebecgbaa
open Go Go.Sh Go.RowKit
end Go.Proofs.Ytegcjkhebecgbaa

/- Contracts: words compared (the program's library), FirstUnlike of the reference and of the program. -/
set_option linter.unusedVariables false
set_option linter.unusedSimpArgs false
set_option maxRecDepth 100000
namespace Go.Sh
open Go
def cmpI (x y : Int) : Int := if x < y then -1 else if y < x then 1 else 0
def cmpL : List Int → List Int → Int
  | x :: xs, y :: ys => if cmpI x y ≠ 0 then cmpI x y else cmpL xs ys
  | [], [] => 0
  | [], _ :: _ => -1
  | _ :: _, [] => 1
theorem cmpI_lt {x y : Int} : cmpI x y < 0 ↔ x < y := by
  unfold cmpI
  split
  · omega
  · split <;> omega
theorem cmpI_eq {x y : Int} : cmpI x y = 0 ↔ x = y := by
  unfold cmpI
  split
  · omega
  · split <;> omega
theorem cmpL_drop {a b : List Int} {i : Nat} (hi : i < a.length) (hj : i < b.length) : cmpL (a.drop i) (b.drop i) = if cmpI (a.getD i 0) (b.getD i 0) ≠ 0 then cmpI (a.getD i 0) (b.getD i 0) else cmpL (a.drop (i + 1)) (b.drop (i + 1)) := by
  rw [List.drop_eq_getElem_cons hi, List.drop_eq_getElem_cons hj, cmpL]
  simp [List.getD_eq_getElem?_getD, hi, hj]
theorem cmpL_right {a b : List Int} {i : Nat} (hi : i < a.length) (hj : b.length ≤ i) : cmpL (a.drop i) (b.drop i) = 1 := by
  rw [List.drop_eq_getElem_cons hi, List.drop_of_length_le hj, cmpL]
theorem cmpL_left {a b : List Int} {i : Nat} (hi : a.length ≤ i) (hj : i < b.length) : cmpL (a.drop i) (b.drop i) = -1 := by
  rw [List.drop_eq_getElem_cons hj, List.drop_of_length_le hi, cmpL]
theorem cmpL_none {a b : List Int} {i : Nat} (hi : a.length ≤ i) (hj : b.length ≤ i) : cmpL (a.drop i) (b.drop i) = 0 := by
  rw [List.drop_of_length_le hi, List.drop_of_length_le hj, cmpL]
/-- The rest of a list of slices, from place i on. -/
structure AtS (w : World) (X : Option Addr) (n c : Nat) (ls : List (List Int)) (ps : Nat → Option Addr × Nat) (i : Nat) : Prop where
  len : n = ls.length - i
  le : n ≤ c
  ptr : 0 < n → X = some (ad X)
  cell : ∀ j, j < n → w.cell? ((ad X).add j) = some (.slice (ps (i + j)).1 (rgt ls (i + j)).length (ps (i + j)).2)
theorem AtS.gr {w w' : World} {X : Option Addr} {n c i : Nat} {ls : List (List Int)} {ps : Nat → Option Addr × Nat} (h : AtS w X n c ls ps i) (g : Gr w w') : AtS w' X n c ls ps i := ⟨h.len, h.le, h.ptr, fun j hj => g.cell (h.cell j hj)⟩
theorem AtS.first {w : World} {X : Option Addr} {n c i : Nat} {ls : List (List Int)} {ps : Nat → Option Addr × Nat} (h : AtS w X n c ls ps i) (h0 : 0 < n) : w.cell? ((ad X).add 0) = some (.slice (ps i).1 (rgt ls i).length (ps i).2) := h.cell 0 h0
theorem AtS.next {w : World} {X : Option Addr} {n c i : Nat} {ls : List (List Int)} {ps : Nat → Option Addr × Nat} (h : AtS w X n c ls ps i) (h0 : 0 < n) : AtS w (sub X 1 c 1) (n - 1) (c - 1) ls ps (i + 1) := by
  have hl := h.len
  have hle := h.le
  have hX := h.ptr h0
  refine ⟨by omega, by omega, fun h1 => ?_, fun j hj => ?_⟩
  · unfold Sh.sub
    rw [if_neg (by omega), hX]
    rfl
  · have := h.cell (j + 1) (by omega)
    unfold Sh.sub
    rw [if_neg (by omega), hX]
    show w.cell? (((ad X).add (1 * 1)).add j) = _
    rw [add_add, show 1 * 1 + j = j + 1 from by omega, this, show i + (j + 1) = i + 1 + j from by omega]
theorem AtS.of {w : World} {e1 e2 B c : Nat} {X : Option Addr} {ls : List (List Int)} {ps : Nat → Option Addr × Nat} (o : OwnSS e1 e2 w B X c ls ps) : AtS w X ls.length c ls ps 0 := by
  refine ⟨by omega, ?_, fun h => o.ptr h, fun j hj => ?_⟩
  · obtain ⟨⟨cells, hr, hc⟩, _⟩ := o
    exact hr.cap.1
  · rw [Nat.zero_add]
    exact o.cell hj
end Go.Sh
namespace Go.Proofs.Ytegcjkhebecgbaa
open Go Go.Sh Go.RowKit
theorem compare_c {w : World} {x y : Int} {k : Value → World → Prop} (hk : k (.int .i64 (cmpI x y)) w) : CallK Try.prog 280 [.int .i64 x, .int .i64 y] k w := by
  refine enter280 ?_
  unfold S280
  refine enter308 ?_
  unfold S308
  simp only [decide_true, Bool.not_true, go_sem, Nat.reduceEqDiff]
  refine enter308 ?_
  unfold S308
  simp only [decide_true, Bool.not_true, go_sem, Nat.reduceEqDiff]
  unfold cmpI at hk
  by_cases h1 : x < y
  · simp only [h1, decide_true, go_sem, Nat.reduceEqDiff]
    rwa [if_pos h1] at hk
  · simp only [h1, decide_false, go_sem, Nat.reduceEqDiff]
    rw [if_neg h1] at hk
    by_cases h2 : y < x
    · simp only [h2, decide_true, go_sem, Nat.reduceEqDiff]
      rwa [if_pos h2] at hk
    · simp only [h2, decide_false, go_sem, Nat.reduceEqDiff]
      rwa [if_neg h2] at hk
theorem compareL_c {w : World} {X Y : Option Addr} {c d : Nat} {a b : List Int} (hX : Ints w X a) (hY : Ints w Y b) {k : Value → World → Prop} (hk : k (.int .i64 (cmpL a b)) w) :
    CallK Try.prog 281 [.slice X a.length c, .slice Y b.length d] k w := by
  refine enter281 ?_
  unfold S281
  simp only [go_sem, Nat.reduceEqDiff]
  have hle := hX.le
  refine loop_to a.length 0 (fun i f w' => i ≤ a.length ∧ i ≤ b.length ∧ f 11 = .int .i64 i ∧ w' = w ∧ cmpL a b = cmpL (a.drop i) (b.drop i)) ⟨Nat.zero_le _, Nat.zero_le _, rfl, rfl, by simp⟩ ?_
  rintro i f w1 N hag ⟨hi, hib, h11, rfl, hE⟩ hN
  have f0 : f 0 = .slice X a.length c := hag 0 (by decide)
  have f1 : f 1 = .slice Y b.length d := hag 1 (by decide)
  have f9 : f 9 = .slice X a.length c := hag 9 (by decide)
  have f10 : f 10 = .int .i64 a.length := hag 10 (by decide)
  simp only [f0, f1, f9, f10, h11, go_sem, Nat.reduceEqDiff]
  by_cases hlt : i < a.length
  case neg =>
    simp only [show ¬ ((i : Int) < a.length) from by omega, decide_false, go_sem, Nat.reduceEqDiff]
    by_cases hb : a.length < b.length
    · simp only [show ((a.length : Int) < b.length) from by omega, decide_true, go_sem, Nat.reduceEqDiff]
      rw [cmpL_left (by omega) (by omega)] at hE
      rwa [hE] at hk
    · simp only [show ¬ ((a.length : Int) < b.length) from by omega, decide_false, go_sem, Nat.reduceEqDiff]
      rw [cmpL_none (by omega) (by omega)] at hE
      rwa [hE] at hk
  simp only [show ((i : Int) < a.length) from by omega, decide_true, go_sem, Nat.reduceEqDiff]
  refine rdi (ixn27 hX.ptr hlt) (rdi (ld3 (hX.cell i hlt)) ?_)
  by_cases hb : i < b.length
  case neg =>
    simp only [show ((b.length : Int) ≤ i) from by omega, decide_true, go_sem, Nat.reduceEqDiff]
    rw [cmpL_right hlt (by omega)] at hE
    rwa [hE] at hk
  simp only [show ¬ ((b.length : Int) ≤ i) from by omega, decide_false, go_sem, Nat.reduceEqDiff]
  refine rdi (ixn27 hY.ptr hb) (rdi (ld3 (hY.cell i hb)) ?_)
  refine compare_c ?_
  simp only [go_sem, Nat.reduceEqDiff]
  rw [cmpL_drop hlt hb] at hE
  by_cases e : cmpI (a.getD i 0) (b.getD i 0) = 0
  · simp only [e, decide_true, Bool.not_true, go_sem, Nat.reduceEqDiff]
    rw [i64_of (by omega) (by omega)]
    rw [if_neg (fun h => h e)] at hE
    exact hN _ _ hlt ⟨by omega, by omega, rfl, rfl, hE⟩
  · simp only [e, decide_false, Bool.not_false, go_sem, Nat.reduceEqDiff]
    rw [if_pos e] at hE
    rwa [hE] at hk
end Go.Proofs.Ytegcjkhebecgbaa

/- The first of rising lists: the plain law. -/
set_option linter.unusedVariables false
set_option linter.unusedSimpArgs false
set_option maxRecDepth 100000
namespace Go.Sh
open Go
def ltL (a b : List Int) : Prop := cmpL a b < 0
theorem cmpI_anti (x y : Int) : cmpI y x = - cmpI x y := by
  unfold cmpI
  by_cases h1 : x < y
  · rw [if_pos h1, if_neg (by omega), if_pos h1]
    rfl
  · by_cases h2 : y < x
    · rw [if_pos h2, if_neg h1, if_pos h2]
    · rw [if_neg h2, if_neg h1, if_neg h1, if_neg h2]
      rfl
theorem cmpL_anti : ∀ a b : List Int, cmpL b a = - cmpL a b := by
  intro a
  induction a with
  | nil => intro b; cases b <;> rfl
  | cons x a ih =>
    intro b
    cases b with
    | nil => rfl
    | cons y b =>
      rw [cmpL, cmpL, cmpI_anti x y]
      by_cases h : cmpI x y = 0
      · rw [if_neg (fun e => e (by omega)), if_neg (fun e => e h)]
        exact ih b
      · rw [if_pos h, if_pos (by omega)]
theorem cmpL_zero : ∀ {a b : List Int}, cmpL a b = 0 → a = b := by
  intro a
  induction a with
  | nil => intro b h; cases b with
    | nil => rfl
    | cons y b => cases h
  | cons x a ih =>
    intro b h
    cases b with
    | nil => cases h
    | cons y b =>
      rw [cmpL] at h
      by_cases e : cmpI x y = 0
      · rw [if_neg (fun h => h e)] at h
        rw [cmpI_eq.1 e, ih h]
      · rw [if_pos e] at h
        exact absurd h e
theorem ltL_irrefl (a : List Int) : ¬ ltL a a := by
  intro h
  have := cmpL_anti a a
  unfold ltL at h
  omega
theorem ltL_tri (a b : List Int) : ltL a b ∨ a = b ∨ ltL b a := by
  unfold ltL
  have := cmpL_anti a b
  by_cases h : cmpL a b = 0
  · exact .inr (.inl (cmpL_zero h))
  · omega
theorem ltL_cons {x y : Int} {a b : List Int} : ltL (x :: a) (y :: b) ↔ x < y ∨ (x = y ∧ ltL a b) := by
  unfold ltL
  rw [cmpL]
  by_cases e : cmpI x y = 0
  · rw [if_neg (fun h => h e)]
    have := cmpI_eq.1 e
    omega
  · rw [if_pos e, cmpI_lt]
    have : ¬ x = y := fun h => e (cmpI_eq.2 h)
    omega
theorem ltL_trans : ∀ {a b c : List Int}, ltL a b → ltL b c → ltL a c := by
  intro a
  induction a with
  | nil =>
    intro b c h1 h2
    cases c with
    | nil =>
      cases b with
      | nil => exact h2
      | cons y b => exact absurd h2 (by unfold ltL; show ¬ ((1 : Int) < 0); omega)
    | cons z c => show (-1 : Int) < 0; omega
  | cons x a ih =>
    intro b c h1 h2
    cases b with
    | nil => exact absurd h1 (by unfold ltL; show ¬ ((1 : Int) < 0); omega)
    | cons y b =>
      cases c with
      | nil => exact absurd h2 (by unfold ltL; show ¬ ((1 : Int) < 0); omega)
      | cons z c =>
        rw [ltL_cons] at h1 h2 ⊢
        rcases h1 with h1 | ⟨h1, h1'⟩
        · rcases h2 with h2 | ⟨h2, h2'⟩
          · exact .inl (by omega)
          · exact .inl (by omega)
        · rcases h2 with h2 | ⟨h2, h2'⟩
          · exact .inl (by omega)
          · exact .inr ⟨by omega, ih h1' h2'⟩
theorem ltL_app : ∀ {a b c : List Int}, ltL b c → ltL (a ++ b) (a ++ c) := by
  intro a
  induction a with
  | nil => intro b c h; exact h
  | cons x a ih =>
    intro b c h
    rw [List.cons_append, List.cons_append, ltL_cons]
    exact .inr ⟨rfl, ih h⟩
theorem ltL_pre : ∀ {a b c d : List Int}, ltL a b → (∀ u, b ≠ a ++ u) → ltL (a ++ c) (b ++ d) := by
  intro a
  induction a with
  | nil => intro b c d _ h; exact absurd rfl (h b)
  | cons x a ih =>
    intro b c d h1 h2
    cases b with
    | nil => exact absurd h1 (by unfold ltL; show ¬ ((1 : Int) < 0); omega)
    | cons y b =>
      rw [ltL_cons] at h1
      rw [List.cons_append, List.cons_append, ltL_cons]
      rcases h1 with h1 | ⟨h1, h3⟩
      · exact .inl h1
      · subst h1
        exact .inr ⟨rfl, ih h3 fun u e => h2 u (by rw [e]; rfl)⟩
/-- Rising. -/
abbrev Rise (l : List (List Int)) : Prop := l.Pairwise ltL
theorem rise_sub : ∀ {l' l : List (List Int)}, Rise l → Rise l' → (∀ x ∈ l, x ∈ l') → l.Sublist l' := by
  intro l'
  induction l' with
  | nil =>
    intro l _ _ h
    cases l with
    | nil => exact List.Sublist.slnil
    | cons a l => exact absurd (h a (List.mem_cons_self ..)) (by simp)
  | cons b s ih =>
    intro l hl hl' h
    cases l with
    | nil => exact List.nil_sublist _
    | cons a t =>
      have hl1 := List.pairwise_cons.1 hl
      have hl2 := List.pairwise_cons.1 hl'
      rcases List.mem_cons.1 (h a (List.mem_cons_self ..)) with e | e
      · subst e
        refine List.Sublist.cons_cons _ (ih hl1.2 hl2.2 fun x hx => ?_)
        rcases List.mem_cons.1 (h x (List.mem_cons_of_mem _ hx)) with e | e
        · subst e
          exact absurd (hl1.1 _ hx) (ltL_irrefl _)
        · exact e
      · refine List.Sublist.cons _ (ih hl hl2.2 fun x hx => ?_)
        rcases List.mem_cons.1 (h x hx) with e' | e'
        · subst e'
          rcases List.mem_cons.1 hx with e2 | e2
          · subst e2
            exact e
          · exact absurd (ltL_trans (hl1.1 _ e2) (hl2.1 _ e)) (ltL_irrefl _)
        · exact e'
/-- The first M lists of a set, rising. -/
structure Firsts (M : Nat) (S : List Int → Prop) (l : List (List Int)) : Prop where
  rise : Rise l
  mem : ∀ x ∈ l, S x
  len : l.length ≤ M
  all : ∀ x, S x → x ∈ l ∨ (l.length = M ∧ ∀ y ∈ l, ltL y x)
theorem Firsts.sub {M : Nat} {S : List Int → Prop} {l l' : List (List Int)} (h : Firsts M S l) (h' : Firsts M S l') : ∀ x ∈ l, x ∈ l' := by
  intro x hx
  rcases h'.all x (h.mem x hx) with e | ⟨e1, e2⟩
  · exact e
  · exfalso
    have hs : l'.Sublist l := rise_sub h'.rise h.rise fun y hy => by
      rcases h.all y (h'.mem y hy) with e | ⟨_, e3⟩
      · exact e
      · exact absurd (ltL_trans (e2 y hy) (e3 x hx)) (ltL_irrefl _)
    have := hs.eq_of_length_le (by rw [e1]; exact h.len)
    subst this
    exact ltL_irrefl _ (e2 x hx)
theorem Firsts.uniq {M : Nat} {S : List Int → Prop} {l l' : List (List Int)} (h : Firsts M S l) (h' : Firsts M S l') : l = l' :=
  (rise_sub h.rise h'.rise (h.sub h')).eq_of_length_le (rise_sub h'.rise h.rise (h'.sub h)).length_le
theorem Firsts.nil (M : Nat) {S : List Int → Prop} (h : ∀ x, ¬ S x) : Firsts M S [] := ⟨List.Pairwise.nil, fun x hx => by simp at hx, Nat.zero_le _, fun x hx => absurd hx (h x)⟩
theorem Firsts.zero (S : List Int → Prop) : Firsts 0 S [] := ⟨List.Pairwise.nil, fun x hx => by simp at hx, Nat.zero_le _, fun x hx => .inr ⟨rfl, fun y hy => by simp at hy⟩⟩
theorem Firsts.congr {M : Nat} {S S' : List Int → Prop} {l : List (List Int)} (h : Firsts M S l) (e : ∀ x, S' x ↔ S x) : Firsts M S' l := ⟨h.rise, fun x hx => (e x).2 (h.mem x hx), h.len, fun x hx => h.all x ((e x).1 hx)⟩
/-- M of S that are less than x. -/
def Under (M : Nat) (S : List Int → Prop) (x : List Int) : Prop := ∃ ys, Rise ys ∧ ys.length = M ∧ ∀ y ∈ ys, S y ∧ ltL y x
theorem Firsts.more {M : Nat} {S S' : List Int → Prop} {l : List (List Int)} (h : Firsts M S l) (h1 : ∀ x, S x → S' x) (h2 : ∀ x, S' x → S x ∨ Under M S x) : Firsts M S' l := by
  refine ⟨h.rise, fun x hx => h1 x (h.mem x hx), h.len, fun x hx => ?_⟩
  rcases h2 x hx with e | ⟨ys, hy1, hy2, hy3⟩
  · exact h.all x e
  by_cases hxl : x ∈ l
  · exact .inl hxl
  have key : ∀ z ∈ l, ltL z x := fun z hz => by
    rcases ltL_tri z x with e | e | e
    · exact e
    · subst e
      exact absurd hz hxl
    · exfalso
      have hs : ys.Sublist l := rise_sub hy1 h.rise fun y hy => by
        rcases h.all y (hy3 y hy).1 with e1 | ⟨_, e1⟩
        · exact e1
        · exact absurd (ltL_trans (e1 z hz) (ltL_trans (hy3 y hy).2 e)) (ltL_irrefl _)
      have := hs.eq_of_length_le (by rw [hy2]; exact h.len)
      subst this
      exact absurd (ltL_trans (hy3 z hz).2 e) (ltL_irrefl _)
  refine .inr ⟨?_, key⟩
  by_cases hlt : l.length = M
  · exact hlt
  · exfalso
    have hs : ys.Sublist l := rise_sub hy1 h.rise fun y hy => by
      rcases h.all y (hy3 y hy).1 with e1 | ⟨e1, _⟩
      · exact e1
      · exact absurd e1 hlt
    have := hs.length_le
    have := h.len
    omega
theorem Firsts.of_rise (M : Nat) {l : List (List Int)} (h : Rise l) : Firsts M (fun x => x ∈ l) (l.take M) := by
  refine ⟨h.sublist (List.take_sublist _ _), fun x hx => (List.take_sublist _ _).subset hx, by rw [List.length_take]; omega, fun x hx => ?_⟩
  rw [← List.take_append_drop M l] at hx
  rcases List.mem_append.1 hx with e | e
  · exact .inl e
  · refine .inr ⟨?_, fun y hy => ?_⟩
    · rw [List.length_take]
      have : 0 < (l.drop M).length := List.length_pos_of_mem e
      rw [List.length_drop] at this
      omega
    · have h' := h
      rw [← List.take_append_drop M l] at h'
      exact (List.pairwise_append.1 h').2.2 y hy x e
theorem Firsts.take {M m : Nat} {S : List Int → Prop} {l : List (List Int)} (h : Firsts M S l) (hm : m ≤ M) : Firsts m S (l.take m) := by
  refine (Firsts.of_rise m h.rise).more h.mem fun x hx => ?_
  rcases h.all x hx with e | ⟨e1, e2⟩
  · exact .inl e
  · refine .inr ⟨l.take m, h.rise.sublist (List.take_sublist _ _), by rw [List.length_take]; omega, fun y hy => ?_⟩
    have := (List.take_sublist _ _).subset hy
    exact ⟨this, e2 y this⟩
/-- One more comes. -/
theorem Firsts.add {M : Nat} {S : List Int → Prop} {pre post : List (List Int)} {x : List Int} (h : Firsts M S (pre ++ post)) (h1 : ∀ y ∈ pre, ltL y x) (h2 : ∀ y ∈ post, ltL x y) : Firsts M (fun z => S z ∨ z = x) (if M ≤ pre.length then pre ++ post else (pre ++ x :: post).take M) := by
  have hr : Rise (pre ++ x :: post) := by
    have := List.pairwise_append.1 h.rise
    refine List.pairwise_append.2 ⟨this.1, List.pairwise_cons.2 ⟨h2, this.2.1⟩, fun a ha b hb => ?_⟩
    rcases List.mem_cons.1 hb with e | e
    · subst e
      exact h1 a ha
    · exact this.2.2 a ha b e
  have hlen := h.len
  rw [List.length_append] at hlen
  have hf := Firsts.of_rise M hr
  have he : (pre ++ x :: post).take M = if M ≤ pre.length then pre ++ post else (pre ++ x :: post).take M := by
    split
    · rw [List.take_append_of_le_length (by omega), List.take_of_length_le (by omega)]
      have : post = [] := List.eq_nil_of_length_eq_zero (by omega)
      rw [this, List.append_nil]
    · rfl
  rw [← he]
  refine hf.more (fun z hz => ?_) fun z hz => ?_
  · rcases List.mem_append.1 hz with e | e
    · exact .inl (h.mem z (List.mem_append_left _ e))
    · rcases List.mem_cons.1 e with e | e
      · exact .inr e
      · exact .inl (h.mem z (List.mem_append_right _ e))
  · have hsub : ∀ y ∈ pre ++ post, y ∈ pre ++ x :: post := fun y hy => by
      rcases List.mem_append.1 hy with e | e
      · exact List.mem_append_left _ e
      · exact List.mem_append_right _ (List.mem_cons_of_mem _ e)
    rcases hz with hz | hz
    · rcases h.all z hz with e | ⟨e1, e2⟩
      · exact .inl (hsub z e)
      · exact .inr ⟨pre ++ post, h.rise, e1, fun y hy => ⟨hsub y hy, e2 y hy⟩⟩
    · subst hz
      exact .inl (List.mem_append_right _ (List.mem_cons_self ..))
/-- Others come behind. -/
theorem Firsts.append {M : Nat} {S S' : List Int → Prop} {l l' : List (List Int)} (h : Firsts M S l) (h' : Firsts (M - l.length) S' l') (hl : ∀ x y, S x → S' y → ltL x y) : Firsts M (fun z => S z ∨ S' z) (l ++ l') := by
  have h1 := h.len
  have h2 := h'.len
  refine ⟨List.pairwise_append.2 ⟨h.rise, h'.rise, fun a ha b hb => hl a b (h.mem a ha) (h'.mem b hb)⟩, fun x hx => ?_, by rw [List.length_append]; omega, fun x hx => ?_⟩
  · rcases List.mem_append.1 hx with e | e
    · exact .inl (h.mem x e)
    · exact .inr (h'.mem x e)
  · rcases hx with hx | hx
    · rcases h.all x hx with e | ⟨e1, e2⟩
      · exact .inl (List.mem_append_left _ e)
      · have : l' = [] := List.eq_nil_of_length_eq_zero (by omega)
        subst this
        rw [List.append_nil]
        exact .inr ⟨e1, e2⟩
    · rcases h'.all x hx with e | ⟨e1, e2⟩
      · exact .inl (List.mem_append_right _ e)
      · refine .inr ⟨by rw [List.length_append]; omega, fun y hy => ?_⟩
        rcases List.mem_append.1 hy with e | e
        · exact hl y x (h.mem y e) hx
        · exact e2 y e
theorem Firsts.map {M : Nat} {S : List Int → Prop} {l : List (List Int)} (h : Firsts M S l) (q : Int) : Firsts M (fun t => ∃ r, S r ∧ t = q :: r) (l.map (q :: ·)) := by
  refine ⟨List.pairwise_map.2 (h.rise.imp fun e => ltL_cons.2 (.inr ⟨rfl, e⟩)), fun x hx => ?_, by rw [List.length_map]; exact h.len, fun x hx => ?_⟩
  · obtain ⟨r, hr, rfl⟩ := List.mem_map.1 hx
    exact ⟨r, h.mem r hr, rfl⟩
  · obtain ⟨r, hr, rfl⟩ := hx
    rcases h.all r hr with e | ⟨e1, e2⟩
    · exact .inl (List.mem_map.2 ⟨r, e, rfl⟩)
    · refine .inr ⟨by rw [List.length_map]; exact e1, fun y hy => ?_⟩
      obtain ⟨y', hy', rfl⟩ := List.mem_map.1 hy
      exact ltL_cons.2 (.inr ⟨rfl, e2 y' hy'⟩)
/-- What is sorted and cut. -/
theorem rise_of_sorted : ∀ {l : List (List Int)}, l.Pairwise (fun a b => ¬ ltL b a) → l.Nodup → Rise l := by
  intro l
  induction l with
  | nil => intro _ _; exact List.Pairwise.nil
  | cons a l ih =>
    intro h hn
    have h1 := List.pairwise_cons.1 h
    have h2 := List.nodup_cons.1 hn
    refine List.pairwise_cons.2 ⟨fun b hb => ?_, ih h1.2 h2.2⟩
    rcases ltL_tri a b with e | e | e
    · exact e
    · subst e
      exact absurd hb h2.1
    · exact absurd e (h1.1 b hb)
theorem Firsts.sorted {M : Nat} {S : List Int → Prop} {c d : List (List Int)} (hp : d.Perm c) (hs : d.Pairwise (fun a b => ¬ ltL b a)) (hn : c.Nodup) (h1 : ∀ x ∈ c, S x) (h2 : ∀ x, S x → x ∈ c ∨ Under M (fun y => y ∈ c) x) : Firsts M S (d.take M) := by
  have hr := rise_of_sorted hs (hp.nodup_iff.2 hn)
  refine ((Firsts.of_rise M hr).congr (S' := fun x => x ∈ c) fun x => (hp.mem_iff).symm).more h1 h2
/-! What two sets have together. -/
def PreFree (A : List Int → Prop) : Prop := ∀ a b u v, A a → A b → a ++ u = b ++ v → a = b
def ProdS (A B : List Int → Prop) (x : List Int) : Prop := ∃ a b, A a ∧ B b ∧ x = a ++ b
def prodL (F R : List (List Int)) : List (List Int) := F.flatMap fun a => R.map (a ++ ·)
theorem mem_prodL {F R : List (List Int)} {x : List Int} : x ∈ prodL F R ↔ ∃ a b, a ∈ F ∧ b ∈ R ∧ x = a ++ b := by
  unfold prodL
  simp only [List.mem_flatMap, List.mem_map]
  constructor
  · rintro ⟨a, ha, b, hb, rfl⟩
    exact ⟨a, b, ha, hb, rfl⟩
  · rintro ⟨a, b, ha, hb, rfl⟩
    exact ⟨a, ha, b, hb, rfl⟩
theorem pre_lt {A : List Int → Prop} (hA : PreFree A) {a b c d : List Int} (ha : A a) (hb : A b) (h : ltL a b) : ltL (a ++ c) (b ++ d) :=
  ltL_pre h fun u e => by
    have := hA a b u [] ha hb (by rw [List.append_nil]; exact e.symm)
    subst this
    exact ltL_irrefl _ h
theorem rise_prod {A : List Int → Prop} (hA : PreFree A) : ∀ {F R : List (List Int)}, Rise F → Rise R → (∀ a ∈ F, A a) → Rise (prodL F R) := by
  intro F
  induction F with
  | nil => intro R _ _ _; exact List.Pairwise.nil
  | cons a F ih =>
    intro R hF hR h
    have h1 := List.pairwise_cons.1 hF
    show Rise (R.map (a ++ ·) ++ prodL F R)
    refine List.pairwise_append.2 ⟨List.pairwise_map.2 (hR.imp fun e => ltL_app e), ih h1.2 hR fun b hb => h b (List.mem_cons_of_mem _ hb), fun x hx y hy => ?_⟩
    obtain ⟨b, hb, rfl⟩ := List.mem_map.1 hx
    obtain ⟨a', b', ha', hb', rfl⟩ := mem_prodL.1 hy
    exact pre_lt hA (h a (List.mem_cons_self ..)) (h a' (List.mem_cons_of_mem _ ha')) (h1.1 a' ha')
theorem prod_under {M : Nat} {A B : List Int → Prop} (hA : PreFree A) {F R : List (List Int)} (hF : Firsts M A F) (hR : Firsts M B R) {x : List Int} (hx : ProdS A B x) : x ∈ prodL F R ∨ Under M (fun y => y ∈ prodL F R) x := by
  obtain ⟨a, b, ha, hb, rfl⟩ := hx
  rcases hF.all a ha with e1 | ⟨e1, e2⟩
  · rcases hR.all b hb with e3 | ⟨e3, e4⟩
    · exact .inl (mem_prodL.2 ⟨a, b, e1, e3, rfl⟩)
    · refine .inr ⟨R.map (a ++ ·), List.pairwise_map.2 (hR.rise.imp fun e => ltL_app e), by rw [List.length_map]; exact e3, fun y hy => ?_⟩
      obtain ⟨r, hr, rfl⟩ := List.mem_map.1 hy
      exact ⟨mem_prodL.2 ⟨a, r, e1, hr, rfl⟩, ltL_app (e4 r hr)⟩
  · have hne : M = 0 ∨ ∃ r, r ∈ R := by
      rcases hR.all b hb with e3 | ⟨e3, e4⟩
      · exact .inr ⟨b, e3⟩
      · cases R with
        | nil => exact .inl (by simpa using e3.symm)
        | cons r R => exact .inr ⟨r, List.mem_cons_self ..⟩
    rcases hne with h0 | ⟨r, hr⟩
    · subst h0
      exact .inr ⟨[], List.Pairwise.nil, rfl, fun y hy => by simp at hy⟩
    · refine .inr ⟨F.map (· ++ r), ?_, by rw [List.length_map]; exact e1, fun y hy => ?_⟩
      · refine List.pairwise_map.2 (List.Pairwise.imp_of_mem (fun hf hg e => pre_lt hA (hF.mem _ hf) (hF.mem _ hg) e) hF.rise)
      · obtain ⟨f, hf, rfl⟩ := List.mem_map.1 hy
        exact ⟨mem_prodL.2 ⟨f, r, hf, hr, rfl⟩, pre_lt hA (hF.mem f hf) ha (e2 f hf)⟩
theorem prod_firsts {M : Nat} {A B : List Int → Prop} (hA : PreFree A) {F R : List (List Int)} (hF : Firsts M A F) (hR : Firsts M B R) : Firsts M (ProdS A B) ((prodL F R).take M) :=
  (Firsts.of_rise M (rise_prod hA hF.rise hR.rise hF.mem)).more (fun x hx => by
    obtain ⟨a, b, ha, hb, rfl⟩ := mem_prodL.1 hx
    exact ⟨a, b, hF.mem a ha, hR.mem b hb, rfl⟩) fun x hx => prod_under hA hF hR hx
end Go.Sh

/- Numbers of trees by size: the plain law. -/
set_option linter.unusedVariables false
set_option linter.unusedSimpArgs false
set_option maxRecDepth 100000
namespace Go.Sh
open Go
def sumN (f : Nat → Nat) : Nat → Nat
  | 0 => 0
  | n + 1 => sumN f n + f n
/-- In how many ways symbols have trees of size s in all between i and j; c tells the nonterminals' numbers. -/
def cntR (c : Nat → Nat → Nat → Nat → Nat) (ws : List Int) : List Int → Nat → Nat → Nat → Nat
  | [], i, j, s => if i = j ∧ s = 0 then 1 else 0
  | x :: xs, i, j, s => if x < 0 then (if i < j ∧ ws.getD i 0 = -1 - x then cntR c ws xs (i + 1) j s else 0)
      else sumN (fun m => sumN (fun k => c x.toNat i (i + m) (k + 1) * cntR c ws xs (i + m) j (s - (k + 1))) s) (j + 1 - i)
def sumR (rs : List RuleL) (p : RuleL → Nat) : Nat := rs.foldl (fun a r => a + p r) 0
def cntT (rs : List RuleL) (ws : List Int) : Nat → Nat → Nat → Nat → Nat → Nat
  | 0, _, _, _, _ => 0
  | f + 1, A, i, j, s => if s = 0 then 0 else sumR rs fun r => if r.1 = (A : Int) then cntR (cntT rs ws f) ws r.2 i j (s - 1) else 0
/-- How many trees of size s. -/
def cntC (rs : List RuleL) (ws : List Int) (A i j s : Nat) : Nat := cntT rs ws s A i j s
theorem sumN_congr {f g : Nat → Nat} : ∀ {n : Nat}, (∀ k, k < n → f k = g k) → sumN f n = sumN g n := by
  intro n
  induction n with
  | zero => intro _; rfl
  | succ n ih =>
    intro h
    rw [sumN, sumN, ih fun k hk => h k (by omega), h n (by omega)]
theorem cntR_congr {c c' : Nat → Nat → Nat → Nat → Nat} {ws : List Int} : ∀ {xs : List Int} {i j s : Nat}, (∀ A i j k, k ≤ s → c A i j k = c' A i j k) → cntR c ws xs i j s = cntR c' ws xs i j s := by
  intro xs
  induction xs with
  | nil => intro i j s _; rfl
  | cons x xs ih =>
    intro i j s h
    rw [cntR, cntR]
    split
    · split
      · exact ih h
      · rfl
    · refine sumN_congr fun m _ => sumN_congr fun k hk => ?_
      rw [h _ _ _ _ (by omega), ih fun A i j k' hk' => h A i j k' (by omega)]
theorem sumR_congr {rs : List RuleL} {p q : RuleL → Nat} (h : ∀ r, p r = q r) : sumR rs p = sumR rs q := by
  rw [show p = q from funext h]
theorem cntT_more {rs : List RuleL} {ws : List Int} : ∀ {f g A i j s : Nat}, s ≤ f → s ≤ g → cntT rs ws f A i j s = cntT rs ws g A i j s := by
  intro f
  induction f with
  | zero =>
    intro g A i j s h1 h2
    obtain rfl : s = 0 := by omega
    cases g with
    | zero => rfl
    | succ g => rw [cntT, cntT, if_pos rfl]
  | succ f ih =>
    intro g A i j s h1 h2
    cases g with
    | zero =>
      obtain rfl : s = 0 := by omega
      rw [cntT, cntT, if_pos rfl]
    | succ g =>
      rw [cntT, cntT]
      split
      · rfl
      · refine sumR_congr fun r => ?_
        split
        · exact cntR_congr fun A i j k hk => ih (by omega) (by omega)
        · rfl
theorem cntC_zero (rs : List RuleL) (ws : List Int) (A i j : Nat) : cntC rs ws A i j 0 = 0 := rfl
theorem cntC_succ (rs : List RuleL) (ws : List Int) (A i j s : Nat) : cntC rs ws A i j (s + 1) = sumR rs fun r => if r.1 = (A : Int) then cntR (cntC rs ws) ws r.2 i j s else 0 := by
  unfold cntC
  rw [cntT, if_neg (by omega)]
  refine sumR_congr fun r => ?_
  split
  · exact cntR_congr fun A i j k hk => cntT_more (by omega) (Nat.le_refl _)
  · rfl
end Go.Sh

/- Where there are trees there is a span; what the reference and the program reckon with, kept at most M. -/
set_option linter.unusedVariables false
set_option linter.unusedSimpArgs false
set_option maxRecDepth 100000
namespace Go.Sh
open Go
theorem Inc.still {α : Type} {f : TS → α → TS} : ∀ {l : List α} {s : TS}, (∀ a ∈ l, ∀ s, Inc s (f s a)) → s.2 = false → (l.foldl f s).2 = false → ∀ a ∈ l, f s a = s := by
  intro l
  induction l with
  | nil => intro s _ _ _ a ha; simp at ha
  | cons b l ih =>
    intro s h hs he a ha
    rw [List.foldl_cons] at he
    have hb : f s b = s := by
      rcases h b (List.mem_cons_self ..) s with e | ⟨e, _⟩
      · exact e
      · exfalso
        rcases Inc.fold (fun c hc => h c (List.mem_cons_of_mem _ hc)) (f s b) with e' | ⟨e', _⟩
        · rw [e', e] at he
          cases he
        · rw [e'] at he
          cases he
    rcases List.mem_cons.1 ha with rfl | ha
    · exact hb
    · rw [hb] at he
      exact ih (fun c hc => h c (List.mem_cons_of_mem _ hc)) hs he a ha
theorem pass_closed {rs : List (Int × List Int)} {w : List Int} {T : Tab} (hr : ∀ r ∈ rs, r.1.toNat < 6) (hw : w.length ≤ 10) (h : (passT rs w (T, false)).2 = false) {r : Int × List Int} (hm : r ∈ rs) {i j : Nat} (hij : i ≤ j) (hj : j ≤ w.length) (hf : fitsT T w r.2 i j = true) : T r.1.toNat i j = true := by
  have h1 := Inc.still (f := ruleT w) (fun r h s => ruleT_inc (hr r h) hw s) rfl h r hm
  have h2 := Inc.still (f := rowT w r) (l := List.range (w.length + 1)) (s := (T, false)) (fun i hi s => rowT_inc (hr r hm) hw (by have := List.mem_range.1 hi; omega) s) rfl (by
    show (ruleT w (T, false) r).2 = false
    rw [h1]) i (List.mem_range.2 (by omega))
  have h3 := Inc.still (f := stepT w r i) (l := List.range' i (w.length + 1 - i)) (s := (T, false)) (fun j hj s => by
    rw [List.mem_range'_1] at hj
    exact stepT_inc (hr r hm) (by omega) (by omega)) rfl (by
    show (rowT w r (T, false) i).2 = false
    rw [h2]) j (List.mem_range'_1.2 ⟨hij, by omega⟩)
  unfold stepT at h3
  cases hT : T r.1.toNat i j
  · rw [if_pos (by simp [hT, hf])] at h3
    have := congrArg Prod.snd h3
    cases this
  · rfl
theorem pass_same {rs : List (Int × List Int)} {w : List Int} {T : Tab} (hr : ∀ r ∈ rs, r.1.toNat < 6) (hw : w.length ≤ 10) (h : (passT rs w (T, false)).2 = false) : (passT rs w (T, false)).1 = T := by
  rcases passT_inc hr hw (T, false) with e | ⟨e, _⟩
  · rw [e]
  · rw [e] at h
    cases h
theorem span_closed {rs : List (Int × List Int)} {w : List Int} (hr : ∀ r ∈ rs, r.1.toNat < 6) (hw : w.length ≤ 10) {r : Int × List Int} (hm : r ∈ rs) {i j : Nat} (hij : i ≤ j) (hj : j ≤ w.length) (hf : fitsT (spanT rs w) w r.2 i j = true) : spanT rs w r.1.toNat i j = true := by
  obtain ⟨U, hU⟩ := Span.ex hr hw 726 noTab (by unfold openT; exact Nat.le_trans List.countP_le_length (by simp))
  rw [← hU.eq] at hf ⊢
  have key : ∀ {T U : Tab}, Span rs w T U → fitsT U w r.2 i j = true → U r.1.toNat i j = true := by
    intro T U h
    induction h with
    | done h1 =>
      intro hf
      rw [pass_same hr hw h1] at hf ⊢
      exact pass_closed hr hw h1 hm hij hj hf
    | more _ _ ih => exact ih
  exact key hU hf
theorem sumN_pos {f : Nat → Nat} : ∀ {n : Nat}, 0 < sumN f n → ∃ k, k < n ∧ 0 < f k := by
  intro n
  induction n with
  | zero => intro h; simp [sumN] at h
  | succ n ih =>
    intro h
    rw [sumN] at h
    by_cases h0 : 0 < f n
    · exact ⟨n, by omega, h0⟩
    · obtain ⟨k, hk, h1⟩ := ih (by omega)
      exact ⟨k, by omega, h1⟩
theorem sumR_pos {p : RuleL → Nat} : ∀ {rs : List RuleL} , 0 < sumR rs p → ∃ r ∈ rs, 0 < p r := by
  have key : ∀ (rs : List RuleL) (a : Nat), 0 < rs.foldl (fun a r => a + p r) a → 0 < a ∨ ∃ r ∈ rs, 0 < p r := by
    intro rs
    induction rs with
    | nil => intro a h; exact .inl h
    | cons r rs ih =>
      intro a h
      rw [List.foldl_cons] at h
      rcases ih _ h with h1 | ⟨q, hq, h1⟩
      · by_cases h0 : 0 < p r
        · exact .inr ⟨r, List.mem_cons_self .., h0⟩
        · exact .inl (by omega)
      · exact .inr ⟨q, List.mem_cons_of_mem _ hq, h1⟩
  intro rs h
  rcases key rs 0 h with h | h
  · omega
  · exact h
/-- Symbols that have trees fit. -/
theorem cntR_fits {c : Nat → Nat → Nat → Nat → Nat} {T : Tab} {ws : List Int} : ∀ {xs : List Int} {i j s : Nat}, j ≤ ws.length → (∀ A i j k, i ≤ j → j ≤ ws.length → k ≤ s → 0 < c A i j k → T A i j = true) → 0 < cntR c ws xs i j s → fitsT T ws xs i j = true := by
  intro xs
  induction xs with
  | nil =>
    intro i j s hj hc h
    rw [cntR] at h
    split at h
    · rename_i h1
      exact decide_eq_true h1.1
    · omega
  | cons x xs ih =>
    intro i j s hj hc h
    rw [cntR] at h
    by_cases hx : x < 0
    · rw [if_pos hx] at h
      split at h
      · rename_i h1
        rw [fits_tok hx, decide_eq_true h1.1, decide_eq_true h1.2, ih hj hc h]
        rfl
      · omega
    · rw [if_neg hx] at h
      obtain ⟨m, hm, h1⟩ := sumN_pos h
      obtain ⟨k, hk, h2⟩ := sumN_pos h1
      have h3 : 0 < c x.toNat i (i + m) (k + 1) := Nat.pos_of_ne_zero fun e => by rw [e, Nat.zero_mul] at h2; omega
      have h4 : 0 < cntR c ws xs (i + m) j (s - (k + 1)) := Nat.pos_of_ne_zero fun e => by rw [e, Nat.mul_zero] at h2; omega
      rw [fits_non hx]
      refine any_at (m := i + m) (by omega) (by omega) ?_
      rw [hc _ _ _ _ (by omega) (by omega) (by omega) h3, ih hj (fun A i j k' a b d e => hc A i j k' a b (by omega) e) h4]
      rfl
theorem cntC_span {rs : List RuleL} {ws : List Int} (hr : ∀ r ∈ rs, r.1.toNat < 6) (hw : ws.length ≤ 10) : ∀ {s A i j : Nat}, i ≤ j → j ≤ ws.length → 0 < cntC rs ws A i j s → spanT rs ws A i j = true := by
  intro s
  induction s using Nat.strongRecOn with
  | _ s ih =>
    intro A i j hij hj h
    cases s with
    | zero => rw [cntC_zero] at h; omega
    | succ s =>
      rw [cntC_succ] at h
      obtain ⟨r, hm, h1⟩ := sumR_pos h
      split at h1
      · rename_i h2
        have hf := cntR_fits (T := spanT rs ws) hj (fun A i j k a b d e => ih k (by omega) a b e) h1
        have := span_closed hr hw hm hij hj hf
        rwa [h2, Int.toNat_natCast] at this
      · omega
end Go.Sh

/- Trees of a size as lists of rules: each is read in one way alone, and they are counted. -/
set_option linter.unusedVariables false
set_option linter.unusedSimpArgs false
set_option maxRecDepth 100000
namespace Go.Sh
open Go
/-- Lists of rules: of a nonterminal (inl), of symbols (inr); between two places, of a size in all. -/
inductive Der (rs : List RuleL) (ws : List Int) : Nat ⊕ List Int → Nat → Nat → Nat → List Int → Prop
  | tree {A q i j s : Nat} {r : List Int} : q < rs.length → (rul rs q).1 = (A : Int) → Der rs ws (.inr (rul rs q).2) i j s r → Der rs ws (.inl A) i j (s + 1) ((q : Int) :: r)
  | nil {i : Nat} : Der rs ws (.inr []) i i 0 []
  | tok {x : Int} {xs : List Int} {i j s : Nat} {r : List Int} : x < 0 → i < j → ws.getD i 0 = -1 - x → Der rs ws (.inr xs) (i + 1) j s r → Der rs ws (.inr (x :: xs)) i j s r
  | non {x : Int} {xs : List Int} {i m j k s : Nat} {a b : List Int} : ¬ x < 0 → i ≤ m → m ≤ j → Der rs ws (.inl x.toNat) i m k a → Der rs ws (.inr xs) m j s b → Der rs ws (.inr (x :: xs)) i j (k + s) (a ++ b)
section
variable {rs : List RuleL} {ws : List Int}
theorem der_tree {A i j s : Nat} {t : List Int} : Der rs ws (.inl A) i j s t ↔ ∃ (q : Nat) (r : List Int) (s' : Nat), s = s' + 1 ∧ t = (q : Int) :: r ∧ q < rs.length ∧ (rul rs q).1 = (A : Int) ∧ Der rs ws (.inr (rul rs q).2) i j s' r := by
  constructor
  · intro h
    cases h with
    | tree h1 h2 h3 => exact ⟨_, _, _, rfl, rfl, h1, h2, h3⟩
  · rintro ⟨q, r, s', rfl, rfl, h1, h2, h3⟩
    exact .tree h1 h2 h3
theorem der_nil {i j s : Nat} {t : List Int} : Der rs ws (.inr []) i j s t ↔ i = j ∧ s = 0 ∧ t = [] := by
  constructor
  · intro h
    cases h
    exact ⟨rfl, rfl, rfl⟩
  · rintro ⟨rfl, rfl, rfl⟩
    exact .nil
theorem der_tok {x : Int} {xs : List Int} {i j s : Nat} {t : List Int} (hx : x < 0) : Der rs ws (.inr (x :: xs)) i j s t ↔ i < j ∧ ws.getD i 0 = -1 - x ∧ Der rs ws (.inr xs) (i + 1) j s t := by
  constructor
  · intro h
    cases h with
    | tok h1 h2 h3 h4 => exact ⟨h2, h3, h4⟩
    | non h1 => exact absurd hx h1
  · rintro ⟨h1, h2, h3⟩
    exact .tok hx h1 h2 h3
theorem der_non {x : Int} {xs : List Int} {i j s : Nat} {t : List Int} (hx : ¬ x < 0) : Der rs ws (.inr (x :: xs)) i j s t ↔ ∃ m k s' a b, i ≤ m ∧ m ≤ j ∧ s = k + s' ∧ t = a ++ b ∧ Der rs ws (.inl x.toNat) i m k a ∧ Der rs ws (.inr xs) m j s' b := by
  constructor
  · intro h
    cases h with
    | tok h1 => exact absurd h1 hx
    | non h1 h2 h3 h4 h5 => exact ⟨_, _, _, _, _, h2, h3, rfl, rfl, h4, h5⟩
  · rintro ⟨m, k, s', a, b, h2, h3, rfl, rfl, h4, h5⟩
    exact .non hx h2 h3 h4 h5
/-- Read in one way alone. -/
theorem der_one {c : Nat ⊕ List Int} {i j s : Nat} {t : List Int} (h : Der rs ws c i j s t) : ∀ {j' s' : Nat} {t' u u' : List Int}, Der rs ws c i j' s' t' → t ++ u = t' ++ u' → t = t' ∧ s = s' ∧ j = j' ∧ u = u' := by
  induction h with
  | tree h1 h2 h3 ih =>
    intro j' s' t' u u' h' e
    obtain ⟨q', r', s'', rfl, rfl, g1, g2, g3⟩ := der_tree.1 h'
    rw [List.cons_append, List.cons_append] at e
    obtain ⟨e1, e2⟩ := List.cons.inj e
    have e1 := Int.natCast_inj.1 e1
    subst e1
    obtain ⟨a1, a2, a3, a4⟩ := ih g3 e2
    exact ⟨by rw [a1], by rw [a2], a3, a4⟩
  | nil =>
    intro j' s' t' u u' h' e
    obtain ⟨rfl, rfl, rfl⟩ := der_nil.1 h'
    exact ⟨rfl, rfl, rfl, e⟩
  | tok h1 h2 h3 h4 ih =>
    intro j' s' t' u u' h' e
    obtain ⟨_, _, g⟩ := (der_tok h1).1 h'
    exact ih g e
  | non h1 h2 h3 h4 h5 ih1 ih2 =>
    intro j' s' t' u u' h' e
    obtain ⟨m', k', s'', a', b', g1, g2, rfl, rfl, g3, g4⟩ := (der_non h1).1 h'
    rw [List.append_assoc, List.append_assoc] at e
    obtain ⟨a1, a2, a3, a4⟩ := ih1 g3 e
    subst a1 a2 a3
    obtain ⟨b1, b2, b3, b4⟩ := ih2 g4 a4
    exact ⟨by rw [b1], by rw [b2], b3, b4⟩
theorem der_free {c : Nat ⊕ List Int} {i j s : Nat} : PreFree (Der rs ws c i j s) := fun a b u v ha hb e => (der_one ha hb e).1
theorem der_le {c : Nat ⊕ List Int} {i j s : Nat} {t : List Int} (h : Der rs ws c i j s t) : i ≤ j := by
  induction h with
  | tree _ _ _ ih => exact ih
  | nil => exact Nat.le_refl _
  | tok _ h2 _ _ ih => omega
  | non _ h2 h3 _ _ _ _ => omega
theorem der_len {c : Nat ⊕ List Int} {i j s : Nat} {t : List Int} (h : Der rs ws c i j s t) : t.length = s := by
  induction h with
  | tree _ _ _ ih => rw [List.length_cons, ih]
  | nil => rfl
  | tok _ _ _ _ ih => exact ih
  | non _ _ _ _ _ ih1 ih2 => rw [List.length_append, ih1, ih2]
theorem sumN_at {f : Nat → Nat} : ∀ {n k : Nat}, k < n → 0 < f k → 0 < sumN f n := by
  intro n
  induction n with
  | zero => intro k h; omega
  | succ n ih =>
    intro k h h1
    rw [sumN]
    by_cases e : k = n
    · subst e
      omega
    · have := ih (k := k) (by omega) h1
      omega
theorem sumR_at {p : RuleL → Nat} {rs : List RuleL} {r : RuleL} (hr : r ∈ rs) (h : 0 < p r) : 0 < sumR rs p := by
  have mono : ∀ (l : List RuleL) (a : Nat), a ≤ l.foldl (fun a r => a + p r) a := by
    intro l
    induction l with
    | nil => intro a; exact Nat.le_refl _
    | cons b l ih => intro a; exact Nat.le_trans (Nat.le_add_right a (p b)) (ih (a + p b))
  have key : ∀ (l : List RuleL) (a : Nat), r ∈ l → 0 < l.foldl (fun a r => a + p r) a := by
    intro l
    induction l with
    | nil => intro a h; simp at h
    | cons b l ih =>
      intro a hm
      rcases List.mem_cons.1 hm with e | e
      · subst e
        exact Nat.lt_of_lt_of_le (by omega) (mono l (a + p r))
      · exact ih (a + p b) e
  exact key rs 0 hr
def posD (rs : List RuleL) (ws : List Int) : Nat ⊕ List Int → Nat → Nat → Nat → Prop
  | .inl A, i, j, s => 0 < cntC rs ws A i j s
  | .inr xs, i, j, s => 0 < cntR (cntC rs ws) ws xs i j s
theorem der_posD {c : Nat ⊕ List Int} {i j s : Nat} {t : List Int} (h : Der rs ws c i j s t) : posD rs ws c i j s := by
  induction h with
  | tree h1 h2 h3 ih =>
    show 0 < cntC rs ws _ _ _ _
    rw [cntC_succ]
    refine sumR_at (r := rul rs _) (by rw [rul_eq h1]; exact List.getElem_mem h1) ?_
    rw [if_pos h2]
    exact ih
  | nil =>
    show 0 < cntR _ _ [] _ _ _
    rw [cntR, if_pos ⟨rfl, rfl⟩]
    omega
  | tok h1 h2 h3 h4 ih =>
    show 0 < cntR _ _ (_ :: _) _ _ _
    rw [cntR, if_pos h1, if_pos ⟨h2, h3⟩]
    exact ih
  | non h1 h2 h3 h4 h5 ih1 ih2 =>
    rename_i x xs i m j k s a b
    show 0 < cntR _ _ (x :: xs) _ _ _
    rw [cntR, if_neg h1]
    have hk : 0 < k := by
      obtain ⟨_, _, s', rfl, _⟩ := der_tree.1 h4
      omega
    refine sumN_at (k := m - i) (by omega) (sumN_at (k := k - 1) (by omega) ?_)
    rw [show i + (m - i) = m from by omega, show k - 1 + 1 = k from by omega, show k + s - k = s from by omega]
    exact Nat.mul_pos ih1 ih2
theorem der_posC {A i j s : Nat} {t : List Int} (h : Der rs ws (.inl A) i j s t) : 0 < cntC rs ws A i j s := der_posD h
theorem der_posR {xs : List Int} {i j s : Nat} {t : List Int} (h : Der rs ws (.inr xs) i j s t) : 0 < cntR (cntC rs ws) ws xs i j s := der_posD h
theorem der_span (hr : ∀ r ∈ rs, r.1.toNat < 6) (hw : ws.length ≤ 10) {A i j s : Nat} {t : List Int} (hj : j ≤ ws.length) (h : Der rs ws (.inl A) i j s t) : spanT rs ws A i j = true := cntC_span hr hw (der_le h) hj (der_posC h)
theorem der_fits (hr : ∀ r ∈ rs, r.1.toNat < 6) (hw : ws.length ≤ 10) {xs : List Int} {i j s : Nat} {t : List Int} (hj : j ≤ ws.length) (h : Der rs ws (.inr xs) i j s t) : fitsT (spanT rs ws) ws xs i j = true := cntR_fits hj (fun A i j k h1 h2 _ h3 => cntC_span hr hw h1 h2 h3) (der_posR h)
/-! The parts of a row: at m and k. -/
def PartD (rs : List RuleL) (ws : List Int) (x : Int) (xs : List Int) (i j s m k : Nat) : List Int → Prop := ProdS (Der rs ws (.inl x.toNat) i m k) (Der rs ws (.inr xs) m j (s - k))
theorem part_apart {x : Int} {xs : List Int} {i j s m k m' k' : Nat} {t : List Int} (h : PartD rs ws x xs i j s m k t) (h' : PartD rs ws x xs i j s m' k' t) : m = m' ∧ k = k' := by
  obtain ⟨a, b, h1, h2, rfl⟩ := h
  obtain ⟨a', b', h3, h4, e⟩ := h'
  obtain ⟨_, e1, e2, _⟩ := der_one h1 h3 e
  exact ⟨e2, e1⟩
/-- What the parts before (m, k) make. -/
def SeenD (rs : List RuleL) (ws : List Int) (x : Int) (xs : List Int) (i j s q kk : Nat) (t : List Int) : Prop :=
  ∃ m k, i ≤ m ∧ m ≤ j ∧ 1 ≤ k ∧ k ≤ s ∧ (m < i + q ∨ (m = i + q ∧ k ≤ kk)) ∧ PartD rs ws x xs i j s m k t
theorem seen_all {x : Int} {xs : List Int} {i j s q : Nat} {t : List Int} (hx : ¬ x < 0) (hq : j < i + q) : Der rs ws (.inr (x :: xs)) i j s t ↔ SeenD rs ws x xs i j s q 0 t := by
  rw [der_non hx]
  constructor
  · rintro ⟨m, k, s', a, b, h1, h2, rfl, rfl, h3, h4⟩
    have hk : 1 ≤ k := by
      obtain ⟨_, _, s'', rfl, _⟩ := der_tree.1 h3
      omega
    exact ⟨m, k, h1, h2, hk, by omega, .inl (by omega), a, b, h3, by rw [show k + s' - k = s' from by omega]; exact h4, rfl⟩
  · rintro ⟨m, k, h1, h2, h3, h4, _, a, b, h5, h6, rfl⟩
    exact ⟨m, k, s - k, a, b, h1, h2, by omega, rfl, h5, h6⟩
theorem seen_none {x : Int} {xs : List Int} {i j s : Nat} {t : List Int} : ¬ SeenD rs ws x xs i j s 0 0 t := by
  rintro ⟨m, k, h1, h2, h3, h4, h5, _⟩
  omega
theorem seen_row {x : Int} {xs : List Int} {i j s q : Nat} {t : List Int} : SeenD rs ws x xs i j s (q + 1) 0 t ↔ SeenD rs ws x xs i j s q s t := by
  constructor
  · rintro ⟨m, k, h1, h2, h3, h4, h5, h6⟩
    exact ⟨m, k, h1, h2, h3, h4, by omega, h6⟩
  · rintro ⟨m, k, h1, h2, h3, h4, h5, h6⟩
    exact ⟨m, k, h1, h2, h3, h4, by omega, h6⟩
theorem seen_step {x : Int} {xs : List Int} {i j s q kk : Nat} {t : List Int} (hq : i + q ≤ j) (hk : kk < s) : SeenD rs ws x xs i j s q (kk + 1) t ↔ SeenD rs ws x xs i j s q kk t ∨ PartD rs ws x xs i j s (i + q) (kk + 1) t := by
  constructor
  · rintro ⟨m, k, h1, h2, h3, h4, h5, h6⟩
    by_cases e : m = i + q ∧ k = kk + 1
    · obtain ⟨rfl, rfl⟩ := e
      exact .inr h6
    · exact .inl ⟨m, k, h1, h2, h3, h4, by omega, h6⟩
  · rintro (⟨m, k, h1, h2, h3, h4, h5, h6⟩ | h)
    · exact ⟨m, k, h1, h2, h3, h4, by omega, h6⟩
    · exact ⟨i + q, kk + 1, by omega, hq, by omega, by omega, .inr ⟨rfl, Nat.le_refl _⟩, h⟩
theorem seen_apart {x : Int} {xs : List Int} {i j s q kk : Nat} {t : List Int} (h : SeenD rs ws x xs i j s q kk t) (h' : PartD rs ws x xs i j s (i + q) (kk + 1) t) : False := by
  obtain ⟨m, k, h1, h2, h3, h4, h5, h6⟩ := h
  obtain ⟨e1, e2⟩ := part_apart h6 h'
  omega
/-- The trees of the first q rules of a nonterminal. -/
def RuleD (rs : List RuleL) (ws : List Int) (A i j s q : Nat) (t : List Int) : Prop := ∃ p, p < q ∧ p < rs.length ∧ (rul rs p).1 = (A : Int) ∧ ∃ r, Der rs ws (.inr (rul rs p).2) i j s r ∧ t = (p : Int) :: r
theorem ruleD_all {A i j s : Nat} {t : List Int} : Der rs ws (.inl A) i j (s + 1) t ↔ RuleD rs ws A i j s rs.length t := by
  rw [der_tree]
  constructor
  · rintro ⟨q, r, s', h1, rfl, h2, h3, h4⟩
    obtain rfl : s = s' := by omega
    exact ⟨q, h2, h2, h3, r, h4, rfl⟩
  · rintro ⟨p, _, h2, h3, r, h4, rfl⟩
    exact ⟨p, r, s, rfl, rfl, h2, h3, h4⟩
theorem ruleD_lt {A i j s q : Nat} {x y : List Int} (hx : RuleD rs ws A i j s q x) (hy : ∃ r, Der rs ws (.inr (rul rs q).2) i j s r ∧ y = (q : Int) :: r) : ltL x y := by
  obtain ⟨p, h1, _, _, r, _, rfl⟩ := hx
  obtain ⟨r', _, rfl⟩ := hy
  exact ltL_cons.2 (.inl (by omega))
theorem ruleD_step {A i j s q : Nat} {t : List Int} (hq : q < rs.length) (hA : (rul rs q).1 = (A : Int)) : RuleD rs ws A i j s (q + 1) t ↔ RuleD rs ws A i j s q t ∨ ∃ r, Der rs ws (.inr (rul rs q).2) i j s r ∧ t = (q : Int) :: r := by
  constructor
  · rintro ⟨p, h1, h2, h3, h4⟩
    by_cases e : p = q
    · subst e
      exact .inr h4
    · exact .inl ⟨p, by omega, h2, h3, h4⟩
  · rintro (⟨p, h1, h2, h3, h4⟩ | h)
    · exact ⟨p, by omega, h2, h3, h4⟩
    · exact ⟨q, by omega, hq, hA, h⟩
theorem ruleD_skip {A i j s q : Nat} {t : List Int} (hA : ¬ (rul rs q).1 = (A : Int)) : RuleD rs ws A i j s (q + 1) t ↔ RuleD rs ws A i j s q t := by
  constructor
  · rintro ⟨p, h1, h2, h3, h4⟩
    by_cases e : p = q
    · subst e
      exact absurd h3 hA
    · exact ⟨p, by omega, h2, h3, h4⟩
  · rintro ⟨p, h1, h2, h3, h4⟩
    exact ⟨p, by omega, h2, h3, h4⟩
end
end Go.Sh

/- What is derived and what the tables say: the same. -/
set_option linter.unusedVariables false
set_option linter.unusedSimpArgs false
set_option maxRecDepth 100000
namespace Go.Sh
open Go
section
variable {rs : List RuleL} {ws : List Int}
/-- Every entry of a table has a derivation. -/
def SoundT (rs : List RuleL) (ws : List Int) (T : Tab) : Prop := ∀ A i j, T A i j = true → i ≤ j ∧ ∃ s t, Der rs ws (.inl A) i j s t
theorem fits_sound {T : Tab} (h : SoundT rs ws T) : ∀ {xs : List Int} {i j : Nat}, fitsT T ws xs i j = true → i ≤ j ∧ ∃ s t, Der rs ws (.inr xs) i j s t := by
  intro xs
  induction xs with
  | nil =>
    intro i j hf
    obtain rfl : i = j := of_decide_eq_true hf
    exact ⟨Nat.le_refl _, 0, [], .nil⟩
  | cons x xs ih =>
    intro i j hf
    by_cases hx : x < 0
    · rw [fits_tok hx] at hf
      simp only [Bool.and_eq_true, decide_eq_true_eq] at hf
      obtain ⟨h1, h2, h3⟩ := hf
      obtain ⟨h4, s, t, h5⟩ := ih h3
      exact ⟨by omega, s, t, .tok hx h1 h2 h5⟩
    · rw [fits_non hx, List.any_eq_true] at hf
      obtain ⟨m, hm, hf⟩ := hf
      rw [List.mem_range'_1] at hm
      simp only [Bool.and_eq_true] at hf
      obtain ⟨h1, k, a, h2⟩ := h _ _ _ hf.1
      obtain ⟨h3, s, t, h4⟩ := ih hf.2
      exact ⟨by omega, k + s, a ++ t, .non hx h1 h3 h2 h4⟩
theorem rule_at {r : RuleL} (h : r ∈ rs) : ∃ q, q < rs.length ∧ rul rs q = r := by
  obtain ⟨q, hq, e⟩ := List.getElem_of_mem h
  exact ⟨q, hq, by rw [rul_eq hq, e]⟩
theorem fold_inv {α σ : Type} {I : σ → Prop} {f : σ → α → σ} : ∀ {l : List α} {s : σ}, I s → (∀ a ∈ l, ∀ s, I s → I (f s a)) → I (l.foldl f s) := by
  intro l
  induction l with
  | nil => intro s h _; exact h
  | cons a l ih =>
    intro s h h1
    exact ih (h1 a (List.mem_cons_self ..) s h) fun b hb => h1 b (List.mem_cons_of_mem _ hb)
theorem pass_sound (h0 : ∀ r ∈ rs, 0 ≤ r.1) {s : TS} (h : SoundT rs ws s.1) : SoundT rs ws (passT rs ws s).1 := by
  refine fold_inv (I := fun s : TS => SoundT rs ws s.1) h fun r hr s hs => ?_
  refine fold_inv (I := fun s : TS => SoundT rs ws s.1) hs fun i hi s hs => ?_
  refine fold_inv (I := fun s : TS => SoundT rs ws s.1) hs fun j hj s hs => ?_
  unfold stepT
  split
  · rename_i hc
    simp only [Bool.and_eq_true] at hc
    intro A a b hab
    simp only [Tab.put] at hab
    split at hab
    · rename_i e
      obtain ⟨rfl, rfl, rfl⟩ := e
      obtain ⟨h1, s', t, h2⟩ := fits_sound hs hc.2
      obtain ⟨q, hq, e⟩ := rule_at hr
      refine ⟨h1, s' + 1, (q : Int) :: t, .tree hq ?_ (by rw [e]; exact h2)⟩
      rw [e]
      have := h0 r hr
      omega
    · exact hs A a b hab
  · exact hs
theorem span_sound (h0 : ∀ r ∈ rs, 0 ≤ r.1) : SoundT rs ws (spanT rs ws) := by
  intro A i j h
  unfold spanT at h
  split at h
  · rename_i hx
    have key : ∀ {T U : Tab}, Span rs ws T U → SoundT rs ws T → SoundT rs ws U := by
      intro T U h
      induction h with
      | done _ => exact fun h => pass_sound h0 h
      | more _ _ ih => exact fun h => ih (pass_sound h0 h)
    exact key (Classical.choose_spec hx) (fun A i j h => by cases h) A i j h
  · cases h
theorem span_iff (h0 : ∀ r ∈ rs, 0 ≤ r.1) (hr : ∀ r ∈ rs, r.1.toNat < 6) (hw : ws.length ≤ 10) {A i j : Nat} (hj : j ≤ ws.length) : spanT rs ws A i j = true ↔ ∃ s t, Der rs ws (.inl A) i j s t :=
  ⟨fun h => (span_sound h0 A i j h).2, fun ⟨_, _, h⟩ => der_span hr hw hj h⟩
end
end Go.Sh

/- Plain: what derives a word; other names, turned round; what derives something, what is reached, useful rules. -/
set_option linter.unusedVariables false
set_option linter.unusedSimpArgs false
set_option maxRecDepth 100000
namespace Go.Sh
open Go
/-- What derives a word. -/
inductive Yi (rs : List RuleL) : Nat ⊕ List Int → List Int → Prop
  | rule {A : Nat} {r : RuleL} {u : List Int} : r ∈ rs → r.1 = (A : Int) → Yi rs (.inr r.2) u → Yi rs (.inl A) u
  | nil : Yi rs (.inr []) []
  | tok {x : Int} {xs u : List Int} : x < 0 → Yi rs (.inr xs) u → Yi rs (.inr (x :: xs)) ((-1 - x) :: u)
  | non {x : Int} {xs u v : List Int} : ¬ x < 0 → Yi rs (.inl x.toNat) u → Yi rs (.inr xs) v → Yi rs (.inr (x :: xs)) (u ++ v)
def cut (ws : List Int) (i j : Nat) : List Int := (ws.drop i).take (j - i)
theorem cut_nil (ws : List Int) (i : Nat) : cut ws i i = [] := by simp [cut]
theorem cut_cons {ws : List Int} {i j : Nat} (h : i < j) (hj : j ≤ ws.length) : cut ws i j = ws.getD i 0 :: cut ws (i + 1) j := by
  unfold cut
  rw [List.drop_eq_getElem_cons (by omega), show j - i = (j - (i + 1)) + 1 from by omega, List.take_succ_cons]
  simp [List.getD_eq_getElem?_getD, show i < ws.length from by omega]
theorem cut_append {ws : List Int} {i m j : Nat} (h1 : i ≤ m) (h2 : m ≤ j) (hj : j ≤ ws.length) : cut ws i j = cut ws i m ++ cut ws m j := by
  unfold cut
  rw [show j - i = (m - i) + (j - m) from by omega, List.take_add, List.drop_drop, show i + (m - i) = m from by omega]
theorem cut_all (ws : List Int) : cut ws 0 ws.length = ws := by simp [cut]
theorem cut_length {ws : List Int} {i j : Nat} (h : i ≤ j) (hj : j ≤ ws.length) : (cut ws i j).length = j - i := by
  simp [cut]; omega
theorem cut_mid (a u b : List Int) : cut (a ++ u ++ b) a.length (a.length + u.length) = u := by
  simp [cut, List.append_assoc]
section
variable {rs : List RuleL}
theorem yi_of_der {ws : List Int} {c : Nat ⊕ List Int} {i j s : Nat} {t : List Int} (h : Der rs ws c i j s t) : j ≤ ws.length → Yi rs c (cut ws i j) := by
  induction h with
  | tree h1 h2 _ ih =>
    intro hj
    refine .rule (r := rul rs _) ?_ h2 (ih hj)
    rw [rul_eq h1]
    exact List.getElem_mem h1
  | nil =>
    intro _
    rw [cut_nil]
    exact .nil
  | tok h1 h2 h3 _ ih =>
    intro hj
    rw [cut_cons h2 hj, h3]
    exact .tok h1 (ih hj)
  | non h1 h2 h3 _ _ ih1 ih2 =>
    intro hj
    rw [cut_append h2 h3 hj]
    exact .non h1 (ih1 (by omega)) (ih2 hj)
theorem der_of_yi' {c : Nat ⊕ List Int} {u : List Int} (h : Yi rs c u) : ∀ (a b : List Int), ∃ s t, Der rs (a ++ u ++ b) c a.length (a.length + u.length) s t := by
  induction h with
  | rule h1 h2 _ ih =>
    intro a b
    obtain ⟨s, t, hd⟩ := ih a b
    obtain ⟨q, hq, e⟩ := List.getElem_of_mem h1
    have e' : rul rs q = _ := (rul_eq hq).trans e
    exact ⟨_, _, .tree hq (by rw [e']; exact h2) (by rw [e']; exact hd)⟩
  | nil =>
    intro a b
    exact ⟨_, _, .nil⟩
  | @tok x xs u hx _ ih =>
    intro a b
    obtain ⟨s, t, hd⟩ := ih (a ++ [-1 - x]) b
    refine ⟨s, t, .tok hx (by simp) ?_ ?_⟩
    · simp [List.getD_eq_getElem?_getD]
    · have e : a ++ (-1 - x) :: u ++ b = a ++ [-1 - x] ++ u ++ b := by simp
      rw [e]
      have e2 : a.length + ((-1 - x) :: u).length = (a ++ [-1 - x]).length + u.length := by simp; omega
      rw [e2]
      have e3 : a.length + 1 = (a ++ [-1 - x]).length := by simp
      rw [e3]
      exact hd
  | @non x xs u v hx _ _ ih1 ih2 =>
    intro a b
    obtain ⟨s1, t1, h1⟩ := ih1 a (v ++ b)
    obtain ⟨s2, t2, h2⟩ := ih2 (a ++ u) b
    have e1 : a ++ u ++ (v ++ b) = a ++ (u ++ v) ++ b := by simp
    have e2 : a ++ u ++ v ++ b = a ++ (u ++ v) ++ b := by simp
    rw [e1] at h1
    rw [e2] at h2
    have e3 : (a ++ u).length = a.length + u.length := by simp
    have e4 : (a ++ u).length + v.length = a.length + (u ++ v).length := by simp; omega
    rw [e4, e3] at h2
    exact ⟨_, _, .non hx (by omega) (by simp) h1 h2⟩
theorem cut_parts {ws : List Int} {i j : Nat} (h : i ≤ j) (hj : j ≤ ws.length) : ws = ws.take i ++ cut ws i j ++ ws.drop j := by
  unfold cut
  conv => lhs; rw [← List.take_append_drop i ws, ← List.take_append_drop (j - i) (ws.drop i)]
  rw [List.drop_drop, show i + (j - i) = j from by omega, List.append_assoc]
theorem der_of_yi {ws : List Int} {c : Nat ⊕ List Int} {i j : Nat} (hi : i ≤ j) (hj : j ≤ ws.length) (h : Yi rs c (cut ws i j)) : ∃ s t, Der rs ws c i j s t := by
  obtain ⟨s, t, hd⟩ := der_of_yi' h (ws.take i) (ws.drop j)
  rw [← cut_parts hi hj] at hd
  have e1 : (ws.take i).length = i := by simp; omega
  have e2 : i + (cut ws i j).length = j := by rw [cut_length hi hj]; omega
  rw [e1, e2] at hd
  exact ⟨s, t, hd⟩
theorem der_yi {ws : List Int} {c : Nat ⊕ List Int} {i j : Nat} (hi : i ≤ j) (hj : j ≤ ws.length) : (∃ s t, Der rs ws c i j s t) ↔ Yi rs c (cut ws i j) :=
  ⟨fun ⟨_, _, h⟩ => yi_of_der h hj, der_of_yi hi hj⟩
/-! Parts. -/
end
/-! Other names of nonterminals; turned round. -/
/-! What derives something, what is reached. -/
inductive Clo (rs : List RuleL) (tok : Bool) : Nat → Prop
  | mk {A : Nat} {r : RuleL} : r ∈ rs → r.1 = (A : Int) → (∀ x ∈ r.2, x < 0 → tok = true) → (∀ x ∈ r.2, ¬ x < 0 → Clo rs tok x.toNat) → Clo rs tok A
/-- Reached from the first nonterminal. -/
inductive Rch (rs : List RuleL) : Nat → Prop
  | zero : Rch rs 0
  | step {A : Nat} {r : RuleL} {x : Int} : r ∈ rs → r.1 = (A : Int) → Rch rs A → x ∈ r.2 → ¬ x < 0 → Rch rs x.toNat
open Classical in
noncomputable def madeR (rs : List RuleL) : List RuleL := rs.filter fun r => decide (∀ x ∈ r.2, ¬ x < 0 → Clo rs true x.toNat)
open Classical in
noncomputable def rchR (rs : List RuleL) : List RuleL := rs.filter fun r => decide (Rch rs r.1.toNat)
noncomputable def usefulR (rs : List RuleL) : List RuleL := rchR (madeR rs)
end Go.Sh

/- From the reading of arguments to what the contracts ask. -/
set_option linter.unusedVariables false
set_option linter.unusedSimpArgs false
set_option maxRecDepth 100000
namespace Go.Sh
open Go Go.ChangeShapes Go.WideShapes Go.ChangeAt Go.RowKit
theorem below_of_gr {w w' : World} (g : Gr w w') : Below w.heap.size w w' := ⟨g.os, g.tape, g.output, g.size, fun k hk => g.block k hk (by simp)⟩
/-- A law's walk, as its row asks for it. -/
theorem walk_of {P : Program} {g : FuncId} {args : List Value} {w : World} (h : ∀ k : Value → World → Prop, (∀ w', Gr w w' → k (.bool true) w') → CallK P g args k w) :
    Calls P g args.toArray w fun e w' => e = .returned (.bool true) ∧ Below w.heap.size w w' :=
  (h (fun v w' => v = .bool true ∧ Gr w w') (fun w' g => ⟨rfl, g⟩)).2.mono fun e w' he => by
    cases e with
    | returned v => exact ⟨by rw [he.1], below_of_gr he.2⟩
    | panicked c => exact he.elim
    | outgrown => exact he.elim

section
variable {H : Type} {enc : TypeId × Value → H} {P : Program} {w : World} {base : Nat} {spare : Nat → Bool} {held : Bool}
end
end Go.Sh

/- Choices read from bytes: operations, bytes that are read, a cursor as a thing. -/
set_option linter.unusedVariables false
set_option linter.unusedSimpArgs false
set_option maxRecDepth 100000
namespace Go.Sh
open Go Go.ChangeAt Go.ChangeShapes Go.WideShapes
section
variable {P : Program} {S : WS} {k : Value → Prop}
theorem bin_shr {t : TypeId} {c : Bool} {kd yk : IntKind} {x y : Int} (hy : 0 ≤ y) : Rd P S (sBin .shr t c (.int kd x) (.int yk y)) k = k (.int kd (x.fdiv (2 ^ (min y.toNat kd.bits)))) := rd_eq fun w _ => by
  simp only [sBin, Sem.run_bind, guard_int, Result.andThen]
  have : ¬ y < 0 := by omega
  simp [binOp, Op.shift, this]
theorem bin_and {t : TypeId} {c : Bool} {kd : IntKind} {x y : Int} : Rd P S (sBin .and t c (.int kd x) (.int kd y)) k = k (.int kd (kd.wrap ((BitVec.ofInt kd.bits x &&& BitVec.ofInt kd.bits y).toNat : Int))) := rd_bin fun w => by
  simp [binOp, Op.intBits]
theorem run_convert {s d : TypeId} {kd kn : IntKind} {n : Int} {ds : TypeDesc} (hs : P.underlying s = some ds) (hd : P.underlying d = some (.int kd)) (w : World) : (sConvert s d (.int kn n)).run P w = .ok (.value (.int kd (kd.wrap n))) w := by
  simp only [sConvert, convert, Sem.run_bind, run_underlying hs, run_underlying hd, Result.andThen]
  cases ds <;> simp [Conv.intToInt]
theorem do_convert {k : Value → World → Prop} {s d : TypeId} {kd kn : IntKind} {n : Int} {ds : TypeDesc} {w : World} (hs : P.underlying s = some ds) (hd : P.underlying d = some (.int kd)) (h : k (.int kd (kd.wrap n)) w) : Do P (sConvert s d (.int kn n)) k w := by
  rw [do_value (run_convert hs hd w)]
  exact h
end
theorem and255 (x : Int) : 0 ≤ IntKind.u64.wrap ((BitVec.ofInt IntKind.u64.bits x &&& BitVec.ofInt IntKind.u64.bits 255).toNat : Int) ∧ IntKind.u64.wrap ((BitVec.ofInt IntKind.u64.bits x &&& BitVec.ofInt IntKind.u64.bits 255).toNat : Int) ≤ 255 := by
  have h : (BitVec.ofInt IntKind.u64.bits x &&& BitVec.ofInt IntKind.u64.bits 255).toNat ≤ 255 := by
    rw [BitVec.toNat_and]
    exact Nat.le_trans Nat.and_le_right (by decide)
  have e : IntKind.u64.wrap ((BitVec.ofInt IntKind.u64.bits x &&& BitVec.ofInt IntKind.u64.bits 255).toNat : Int) = ((BitVec.ofInt IntKind.u64.bits x &&& BitVec.ofInt IntKind.u64.bits 255).toNat : Int) := by
    generalize (BitVec.ofInt IntKind.u64.bits x &&& BitVec.ofInt IntKind.u64.bits 255).toNat = n at *
    simp [IntKind.wrap, IntKind.bits, IntKind.signed]
    omega
  rw [e]
  omega
/-- A slice of bytes that is read. -/
structure Byts (w : World) (X : Option Addr) (bs : List Int) : Prop where
  le : bs.length ≤ 9223372036854775807
  ptr : 0 < bs.length → X = some (ad X)
  cell : ∀ j, j < bs.length → w.cell? ((ad X).add j) = some (.int .u8 (bs.getD j 0))
  small : ∀ j, j < bs.length → 0 ≤ bs.getD j 0 ∧ bs.getD j 0 ≤ 255
theorem Byts.gr {w w' : World} {X : Option Addr} {bs : List Int} (h : Byts w X bs) (g : Gr w w') : Byts w' X bs := ⟨h.le, h.ptr, fun j hj => g.cell (h.cell j hj), h.small⟩
section
variable {H : Type} {enc : TypeId × Value → H} {P : Program} {w : World} {base : Nat} {spare : Nat → Bool} {held : Bool}
theorem wf8 {n : Int} (h : (Lit.int .u8 n).wf = true) : 0 ≤ n ∧ n ≤ 255 := by
  simp [Lit.wf, show IntKind.u8.min = 0 from rfl, show IntKind.u8.max = 255 from rfl] at h
  exact h
theorem read_bytes {t e : TypeId} (ht : P.underlying t = some (.slice e)) (he : P.underlying e = some (.int .u8)) (hc : P.cellsOf e = 1) {fuel : Nat} {cs : List Value} {x : DataW H × List MemPlace}
    (h : DataW.trod enc P w base spare held fuel t cs = some x) : ∃ X n c bs, cs = [.slice X n c] ∧ n = bs.length ∧ n ≤ c ∧ Byts w X bs := by
  rcases open_ints ht he hc h with ⟨hcs, _⟩ | ⟨a, l, c, zs, hcs, _, hl, hm, hz, _, hcell, hwz⟩
  · exact ⟨none, 0, 0, [], hcs, rfl, Nat.le_refl _, by simp, fun h => by simp at h, fun j hj => by simp at hj, fun j hj => by simp at hj⟩
  · have hzl : l ≤ zs.length := by rw [hz]; split <;> omega
    have hget : ∀ j, j < (zs.take l).length → j < zs.length ∧ (zs.take l).getD j 0 = zs.getD j 0 := fun j hj => by
      have hj' : j < l ∧ j < zs.length := by simp at hj; omega
      exact ⟨hj'.2, by simp [List.getD_eq_getElem?_getD, List.getElem?_take, hj'.1]⟩
    refine ⟨some a, l, c, zs.take l, hcs, by simp; omega, hl, ?_, fun _ => rfl, fun j hj => ?_, fun j hj => ?_⟩
    · unfold maxLen at hm
      simp
      omega
    · obtain ⟨h1, h2⟩ := hget j hj
      rw [show (ad (some a)).add j = a.add j from rfl, hcell j h1, h2]
    · obtain ⟨h1, h2⟩ := hget j hj
      rw [h2]
      refine wf8 (hwz _ ?_)
      rw [List.getD_eq_getElem?_getD, List.getElem?_eq_getElem h1]
      exact List.getElem_mem h1
theorem trod_bytes {t e : TypeId} {v : Value} {d : DataW H} {p : List MemPlace} (ht : P.underlying t = some (.slice e)) (he : P.underlying e = some (.int .u8)) (hc : P.cellsOf e = 1)
    (h : DataW.Trod enc P w base spare held t v d p) : ∃ X n c bs, v.cells.toList = [.slice X n c] ∧ n = bs.length ∧ n ≤ c ∧ Byts w X bs := by
  obtain ⟨fuel, hf⟩ := h
  exact read_bytes ht he hc hf
end
/-- A cursor: it has gone N steps at most. -/
def curi (tc bc : Nat) (cv : Value) (N : Nat) : Thing := ⟨fun w => ∃ a s : Int, 0 ≤ a ∧ a ≤ N ∧ Box w bc [cv, .int .i64 a, .int .u64 s] tc, fun q => q = bc⟩
section
variable {w0 w : World} {L : List Thing} {tc bc N : Nat} {cv : Value}
theorem Apt.openCur (H : Apt w0 w L) (i : Nat) (hi : L[i]? = some (curi tc bc cv N)) : ∃ a s : Int, 0 ≤ a ∧ a ≤ N ∧ Apt w0 w (L.set i (bx bc [cv, .int .i64 a, .int .u64 s] tc)) := by
  obtain ⟨a, s, h1, h2, h3⟩ := H.get i hi
  exact ⟨a, s, h1, h2, H.set hi (it' := bx bc [cv, .int .i64 a, .int .u64 s] tc) (Gx.refl _ w) (fun q hq => .inl hq) (fun q hq => (H.ok i _ hi).hi q hq) (bx_kept h3)⟩
theorem Apt.shutCur (H : Apt w0 w L) (i : Nat) {a s : Int} (hi : L[i]? = some (bx bc [cv, .int .i64 a, .int .u64 s] tc)) (h1 : 0 ≤ a) (h2 : a ≤ N) : Apt w0 w (L.set i (curi tc bc cv N)) :=
  H.weaken i hi (fun q hq => hq) (fun w' _ hb => ⟨a, s, h1, h2, hb⟩) fun w' w'' hs ⟨a, s, h1, h2, h3⟩ => ⟨a, s, h1, h2, bx_kept h3 w'' hs⟩
end
end Go.Sh
