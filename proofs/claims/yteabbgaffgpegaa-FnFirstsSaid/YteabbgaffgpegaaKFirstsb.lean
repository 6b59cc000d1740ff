/- Texts of this repository put together: ShG6, ShH1, ShH2, ShH3, ShH4, ShH5, ShK2, ShP2, ShK3, ShR, ShZ2, Ca, ShZ3, ShZ4, ShZ5, ShZ6, ShZ7, ShV, ShP1, Be, ShQ1, ShQ2. -/
import Derived.Test.YteabbgaffgpegaaKFirstsa
import Derived.WalkKit
import Derived.ProofKit
import Derived.OpenShut
import Derived.ShutString
import Derived.ChangeOld
import Derived.Below
import Derived.SizedLaws
import Derived.Deep.Slices
import Derived.Test.YteabbgaffgpegaaProg

set_option linter.unusedVariables false
set_option linter.unusedSimpArgs false
set_option maxRecDepth 100000
namespace Go.Proofs.Yteabbgaffgpegaa
open Go Go.Sh Go.RowKit

def PredR (t : Nat) (fv : Value) (p : RuleL → Bool) (w : World) : Prop := ∀ w1, Gr w w1 → ∀ (E : Nat → Prop) (v : Value) (r : RuleL), RuleV E w1 v r → ∀ (k : Value → World → Prop), (∀ w2, Gr w1 w2 → k (.bool (p r)) w2) → Do Try.prog (zid_ fv [v] t) k w1
theorem zyp_ {F : Nat → Prop} {w : World} {X : Option Addr} {c : Nat} {rs : List RuleL} {fv : Value} {p : RuleL → Bool} (hx : RulesF F w X rs) (hp : PredR 4 fv p w) {k : Value → World → Prop}
    (hk : ∀ (r : Int) w', Gr w w' → decide (0 ≤ r) = rs.any p → k (.int .i64 r) w') :
    CallK Try.prog 136 [.slice X rs.length c, fv] k w := by
  refine enter136 ?_
  unfold S136
  simp only [go_sem, Nat.reduceEqDiff]
  refine ⟨fun f w' => ∃ i : Nat, i ≤ rs.length ∧ f 8 = .int .i64 i ∧ Gr w w' ∧ ∀ j, j < i → p (rul rs j) = false, fun f _ => rs.length - (intOf (f 8)).toNat, ⟨0, Nat.zero_le _, rfl, Gr.refl w, fun j hj => absurd hj (Nat.not_lt_zero j)⟩, ?_⟩
  rintro f w1 hag ⟨i, hi, h8, hg, hpre⟩
  have f0 : f 0 = .slice X rs.length c := hag 0 (by decide)
  have f1 : f 1 = fv := hag 1 (by decide)
  have f7 : f 7 = .int .i64 rs.length := hag 7 (by decide)
  simp only [f0, f1, f7, h8, go_sem, Nat.reduceEqDiff]
  by_cases hlt : i < rs.length
  · have hlt' : (i : Int) < rs.length := by omega
    have := hx.le
    simp only [hlt', decide_true, go_sem, Nat.reduceEqDiff]
    rw [ixn24 hx.ptr hlt]
    refine zfh_ zdc_ zkb_ (hx.gr hg) hlt fun v hv => ?_
    refine hp w1 hg _ _ _ hv _ fun w2 g2 => ?_
    have g2' := zf_ hg g2
    cases hb : p (rul rs i)
    · simp only [go_sem, Nat.reduceEqDiff]
      rw [zm_ (by omega) (by omega)]
      refine ⟨⟨i + 1, hlt, rfl, g2', fun j hj => ?_⟩, ?_⟩
      · rcases Nat.lt_succ_iff_lt_or_eq.1 hj with h | rfl
        · exact hpre j h
        · exact hb
      · simp only [intOf]
        omega
    · simp only [go_sem, Nat.reduceEqDiff]
      refine hk i w2 g2' ?_
      rw [decide_eq_true (by omega), zdk_ hlt hb]
  · simp only [show ¬ (i : Int) < rs.length from by omega, decide_false, go_sem, Nat.reduceEqDiff]
    refine hk (-1) w1 hg ?_
    rw [decide_eq_false (by decide), zfi_ fun j hj => hpre j (by omega)]
theorem zek_ {F : Nat → Prop} {w : World} {X : Option Addr} {c : Nat} {rs : List RuleL} {fv : Value} {p : RuleL → Bool} (hx : RulesF F w X rs) (hp : PredR 4 fv p w) {k : Value → World → Prop}
    (hk : ∀ w', Gr w w' → k (.bool (rs.any p)) w') : CallK Try.prog 98 [.slice X rs.length c, fv] k w := by
  refine enter98 ?_
  unfold S98
  refine zyp_ hx hp fun r w' g h => ?_
  simp only [go_sem, Nat.reduceEqDiff]
  rw [h]
  exact hk w' g
theorem isSymbol_c {w : World} {s n t : Int} (hn : inB n 1 6 = true) (ht : inB t 1 4 = true) {k : Value → World → Prop} (hk : k (.bool (symB n t s)) w) : CallK Try.prog 103 [.int .i64 s, .int .i64 n, .int .i64 t] k w := by
  have hn' : 1 ≤ n ∧ n ≤ 6 := by simpa [inB] using hn
  have ht' : 1 ≤ t ∧ t ≤ 4 := by simpa [inB] using ht
  refine enter103 ?_
  unfold S103
  simp only [go_sem, Nat.reduceEqDiff]
  rw [zm_ (by omega) (by omega), zm_ (by omega) (by omega)]
  exact in_c hk
theorem zmp_ {w : World} {b b' e e' : Nat} {s n t : Int} (hB : Box w b [.int .i64 n] e) (hB' : Box w b' [.int .i64 t] e') (hn : inB n 1 6 = true) (ht : inB t 1 4 = true) {k : Value → World → Prop} (hk : k (.bool (!symB n t s)) w) :
    CallK Try.prog 102 [.int .i64 s, .pointer (some ⟨b, 0, none⟩), .pointer (some ⟨b', 0, none⟩)] k w := by
  refine enter102 ?_
  unfold S102
  rw [ldB3 hB rfl, ldB3 hB' rfl]
  refine isSymbol_c hn ht ?_
  simp only [go_sem, Nat.reduceEqDiff]
  exact hk
theorem zmg_ {w : World} {X : Option Addr} {c : Nat} {xs : List Int} {n t : Int} (hx : Ints w X xs) (hn : inB n 1 6 = true) (ht : inB t 1 4 = true) {k : Value → World → Prop} (hk : ∀ w', Gr w w' → k (.bool (xs.all (symB n t))) w') :
    CallK Try.prog 45 [.slice X xs.length c, .int .i64 n, .int .i64 t] k w := by
  refine enter45 ?_
  unfold S45
  refine zub_ fun b w1 g1 hb1 hB => ?_
  refine zub_ fun b' w2 g2 hb2 hB' => ?_
  have hB := hB.gr g2
  simp only [go_sem, Nat.reduceEqDiff]
  have hp : Pred 4 (.func (.func 102) [].toArray [.pointer (some ⟨b, 0, none⟩), .pointer (some ⟨b', 0, none⟩)].toArray) (fun x => !symB n t x) w2 := fun w3 g3 x k hk =>
    callVc (zmp_ (hB.gr g3) (hB'.gr g3) hn ht (hk w3 (Gr.refl w3)))
  refine zhh_ (hx.gr (zf_ g1 g2)) hp fun w3 g3 => ?_
  simp only [go_sem, Nat.reduceEqDiff]
  have := hk w3 (zf_ (zf_ g1 g2) g3)
  rwa [show xs.all (symB n t) = !xs.any (fun x => !symB n t x) from by simp [List.not_any_eq_all_not]] at this
theorem zpp_ {w : World} {X Y : Option Addr} {c d : Nat} {xs ys : List Int} (hx : Ints w X xs) (hy : Ints w Y ys) {k : Value → World → Prop} (hk : ∀ w', Gr w w' → k (.bool (decide (xs = ys))) w') :
    CallK Try.prog 64 [.slice X xs.length c, .slice Y ys.length d] k w := by
  refine enter64 ?_
  unfold S64
  simp only [go_sem, Nat.reduceEqDiff]
  by_cases hl : xs.length = ys.length
  rotate_left
  · simp only [Int.ofNat_inj, hl, decide_false, Bool.not_false, go_sem, Nat.reduceEqDiff]
    have := hk _ (Gr.refl w)
    rwa [decide_eq_false (fun e => hl (by rw [e]))] at this
  simp only [Int.ofNat_inj, hl, decide_true, Bool.not_true, go_sem, Nat.reduceEqDiff]
  rw [← hl]
  refine ⟨fun f w' => ∃ i : Nat, i ≤ xs.length ∧ f 13 = .int .i64 i ∧ Gr w w' ∧ xs.take i = ys.take i, fun f _ => xs.length - (intOf (f 13)).toNat, ⟨0, Nat.zero_le _, rfl, Gr.refl w, rfl⟩, ?_⟩
  rintro f w1 hag ⟨i, hi, h13, hg, hpre⟩
  have h0 : f 0 = .slice X xs.length c := hag 0 (by decide)
  have h1 : f 1 = .slice Y xs.length d := hag 1 (by decide)
  have h12 : f 12 = .int .i64 xs.length := hag 12 (by decide)
  simp only [h0, h1, h12, h13, go_sem, Nat.reduceEqDiff]
  by_cases hlt : i < xs.length
  · have hlt' : (i : Int) < xs.length := by omega
    have := hx.le
    simp only [hlt', decide_true, go_sem, Nat.reduceEqDiff]
    rw [zwb_ hx.ptr hlt, ld3 ((hx.gr (zf_ hg (zyc_ w1))).cell i hlt), zwb_ (hl ▸ hy.ptr) hlt, ld3 ((hy.gr (zf_ hg (zyc_ w1))).cell i (by omega))]
    simp only [go_sem, Nat.reduceEqDiff]
    by_cases he : xs.getD i 0 = ys.getD i 0
    · simp only [he, decide_true, Bool.not_true, go_sem, Nat.reduceEqDiff]
      rw [zm_ (by omega) (by omega)]
      refine ⟨⟨i + 1, hlt, rfl, zf_ hg (zyc_ w1), ?_⟩, ?_⟩
      · rw [zmc_ hlt, zmc_ (by omega), hpre, he]
      · simp only [intOf]
        omega
    · simp only [he, decide_false, Bool.not_false, go_sem, Nat.reduceEqDiff]
      have := hk _ (zf_ hg (zyc_ w1))
      rwa [decide_eq_false (fun e => he (by rw [e]))] at this
  · simp only [show ¬ (i : Int) < xs.length from by omega, decide_false, go_sem, Nat.reduceEqDiff]
    have := hk _ hg
    rwa [decide_eq_true] at this
    rwa [List.take_of_length_le (by omega), List.take_of_length_le (by omega)] at hpre
theorem sameRule_c {F E : Nat → Prop} {w : World} {v u : Value} {r q : RuleL} (hv : RuleV F w v r) (hu : RuleV E w u q) {k : Value → World → Prop} (hk : ∀ w', Gr w w' → k (.bool (decide (r = q))) w') :
    CallK Try.prog 100 [v, u] k w := by
  obtain ⟨Y, c, rfl, hc, hy⟩ := hv
  obtain ⟨Z, d, rfl, hd, hz⟩ := hu
  refine enter100 ?_
  unfold S100
  refine zub_ fun b w1 g1 hb1 hb => ?_
  refine zub_ fun b' w2 g2 hb2 hb' => ?_
  have hb := hb.gr g2
  have g := zf_ g1 g2
  simp only [go_sem, Nat.reduceEqDiff]
  rw [ldB3 hb rfl, ldB3 hb' rfl]
  simp only [go_sem, Nat.reduceEqDiff]
  by_cases h : r.1 = q.1
  · simp only [h, decide_true, go_sem, Nat.reduceEqDiff]
    rw [zad_ hb rfl]
    rw [zad_ hb' rfl]
    refine zpp_ (hy.is.gr g) (hz.is.gr g) fun w3 g3 => ?_
    have := hk w3 (zf_ g g3)
    by_cases h2 : r.2 = q.2
    · simp only [h2, decide_true, go_sem, Nat.reduceEqDiff]
      rwa [decide_eq_true (Prod.ext h h2)] at this
    · simp only [h2, decide_false, go_sem, Nat.reduceEqDiff]
      rwa [decide_eq_false (fun e => h2 (by rw [e]))] at this
  · simp only [h, decide_false, go_sem, Nat.reduceEqDiff]
    have := hk w2 g
    rwa [decide_eq_false (fun e => h (by rw [e]))] at this
theorem zar_ {E F : Nat → Prop} {w : World} {v : Value} {q r : RuleL} {Z : Option Addr} {b d e : Nat} (hv : RuleV E w v q) (hB : Box w b [.int .i64 r.1, .slice Z r.2.length d] e) (hz : IntsF F w Z r.2) (hd : r.2.length ≤ d) {k : Value → World → Prop} (hk : ∀ w', Gr w w' → k (.bool (decide (q = r))) w') :
    CallK Try.prog 99 ([v] ++ [.pointer (some ⟨b, 0, none⟩)]) k w := by
  refine enter99 ?_
  unfold S99
  obtain ⟨Y, c, rfl, hc, hy⟩ := hv
  refine zub_ fun b1 w1 g1 hb1 hB1 => ?_
  rw [zw_ zdc_ zkb_ rfl hB1, zw_ zdc_ zkb_ rfl (hB.gr g1)]
  exact sameRule_c (r := q) (q := r) ⟨Y, c, rfl, hc, hy.gr g1⟩ ⟨Z, d, rfl, hd, hz.gr g1⟩ fun w2 g2 => hk w2 (zf_ g1 g2)
theorem zyi_ {F : Nat → Prop} {w : World} {v : Value} {gm : Gram} (hv : GramV F w v gm) {k : Value → World → Prop} (hk : ∀ w', Gr w w' → k (.bool (zab_ gm)) w') :
    CallK Try.prog 44 [v] k w := by
  have hv0 := hv
  obtain ⟨Y, c, rfl, hc, hy⟩ := hv
  refine enter44 ?_
  unfold S44
  refine zub_ fun b w1 g1 hb1 hB => ?_
  simp only [go_sem, Nat.reduceEqDiff]
  rw [ldB3 hB rfl]
  refine in_c ?_
  cases hn : inB gm.nons 1 6
  · simp only [Bool.not_false, go_sem, Nat.reduceEqDiff]
    have := hk _ g1
    rwa [show zab_ gm = false from by simp [zab_, hn]] at this
  simp only [Bool.not_true, go_sem, Nat.reduceEqDiff]
  rw [ldB3 hB rfl]
  refine in_c ?_
  cases ht : inB gm.toks 1 4
  · simp only [Bool.not_false, go_sem, Nat.reduceEqDiff]
    have := hk _ g1
    rwa [show zab_ gm = false from by simp [zab_, ht]] at this
  simp only [Bool.not_true, go_sem, Nat.reduceEqDiff]
  rw [zhe_ hB rfl]
  simp only [go_sem, Nat.reduceEqDiff]
  by_cases hl : gm.rules.length ≤ 16
  rotate_left
  · simp only [show (16 : Int) < gm.rules.length from by omega, decide_true, go_sem, Nat.reduceEqDiff]
    have := hk _ g1
    rwa [show zab_ gm = false from by simp [zab_, hl]] at this
  simp only [show ¬ (16 : Int) < gm.rules.length from by omega, decide_false, go_sem, Nat.reduceEqDiff]
  rw [zhe_ hB rfl]
  simp only [go_sem, Nat.reduceEqDiff]
  have hn' : 1 ≤ gm.nons ∧ gm.nons ≤ 6 := by simpa [inB] using hn
  have ht' : 1 ≤ gm.toks ∧ gm.toks ≤ 4 := by simpa [inB] using ht
  refine ⟨fun f w' => ∃ i : Nat, i ≤ gm.rules.length ∧ f 24 = .int .i64 i ∧ Gr w1 w' ∧ ∀ j, j < i → zbd_ gm.nons gm.toks gm.rules j = true, fun f _ => gm.rules.length - (intOf (f 24)).toNat, ⟨0, Nat.zero_le _, rfl, Gr.refl w1, fun j hj => absurd hj (Nat.not_lt_zero j)⟩, ?_⟩
  rintro f w2 hag ⟨i, hi, h28, g2, hpre⟩
  have f1 : f 1 = .pointer (some ⟨b, 0, none⟩) := hag 1 (by decide)
  have f26 : f 22 = .slice Y gm.rules.length c := hag 22 (by decide)
  have f27 : f 23 = .int .i64 gm.rules.length := hag 23 (by decide)
  simp only [f1, f26, f27, h28, go_sem, Nat.reduceEqDiff]
  by_cases hlt : i < gm.rules.length
  · have hlt' : (i : Int) < gm.rules.length := by omega
    simp only [hlt', decide_true, go_sem, Nat.reduceEqDiff]
    have g := zf_ g1 g2
    rw [ixn24 hy.ptr hlt]
    refine zfh_ zdc_ zkb_ (hy.gr g) hlt fun v hv => ?_
    obtain ⟨Z, d, rfl, hd, hz⟩ := hv
    refine zue_ zvb_ fun b3 w3 g3 hb3 h3 => ?_
    have n3 := (hB.gr g2).ne hb3
    refine zig_ zkb_ rfl (by intro u hu; simp [Value.cells] at hu; rcases hu with rfl | rfl <;> rfl) h3 (by simp [Value.cells]) fun w4 g4 s4 h4 => ?_
    have hB2 := (hB.gr (zf_ g2 g3)).put g4 n3
    have g' := zkg_ (zf_ g g3) g4 (Nat.le_trans g.size hb3)
    have k0 : zbd_ gm.nons gm.toks gm.rules i = false → ∀ w', Gr w w' → k (.bool false) w' := fun h w' gw => by
      have := hk w' gw
      rwa [show zab_ gm = false from by simp only [zab_, zjm_ hlt h, Bool.and_false]] at this
    simp only [go_sem, Nat.reduceEqDiff]
    rw [ldB3 h4 rfl, ldB3 hB2 rfl]
    simp only [go_sem, Nat.reduceEqDiff]
    rw [zm_ (by omega) (by omega)]
    refine in_c ?_
    cases hr : inB (rul gm.rules i).1 0 (gm.nons - 1)
    · simp only [Bool.not_false, go_sem, Nat.reduceEqDiff]
      exact k0 (by simp [zbd_, hr]) _ g'
    simp only [Bool.not_true, go_sem, Nat.reduceEqDiff]
    rw [zad_ h4 rfl]
    simp only [go_sem, Nat.reduceEqDiff]
    by_cases h5 : (rul gm.rules i).2.length ≤ 4
    rotate_left
    · simp only [show (4 : Int) < (rul gm.rules i).2.length from by omega, decide_true, go_sem, Nat.reduceEqDiff]
      exact k0 (by simp [zbd_, h5]) _ g'
    simp only [show ¬ (4 : Int) < (rul gm.rules i).2.length from by omega, decide_false, go_sem, Nat.reduceEqDiff]
    rw [zad_ h4 rfl]
    rw [ldB3 hB2 rfl]
    rw [ldB3 hB2 rfl]
    have g24 := zkg_ g3 g4 hb3
    refine zmg_ (hz.is.gr g24) hn ht fun w5 g5 => ?_
    simp only [go_sem, Nat.reduceEqDiff]
    cases hs : (rul gm.rules i).2.all (symB gm.nons gm.toks)
    · simp only [Bool.not_false, go_sem, Nat.reduceEqDiff]
      exact k0 (by simp only [zbd_, hs, Bool.and_false, Bool.false_and]) _ (zf_ g' g5)
    simp only [Bool.not_true, go_sem, Nat.reduceEqDiff]
    have gw5 := zf_ g' g5
    rw [zhe_ (hB2.gr g5) rfl]
    rw [slh24 (by omega) (by omega), sub_zero]
    simp only [Int.toNat_natCast, go_sem, Nat.reduceEqDiff]
    have hti : (gm.rules.take i).length = i := by simp; omega
    have hyt : RulesF F w5 Y (gm.rules.take i) := (hy.gr gw5).take i
    have hp : PredR 4 (.func (.func 99) [].toArray [.pointer (some ⟨b3, 0, none⟩)].toArray) (fun q => decide (q = rul gm.rules i)) w5 := fun w6 g6 E v q hv k hk =>
      callVc (zar_ hv (h4.gr (zf_ g5 g6)) (hz.gr (zf_ g24 (zf_ g5 g6))) hd hk)
    have hcf := zek_ (c := c) hyt hp (k := ?k)
    rw [hti] at hcf
    refine hcf ?_
    intro w6 g6
    have e : (gm.rules.take i).any (fun q => decide (q = rul gm.rules i)) = (gm.rules.take i).any (fun q => decide (rul gm.rules i = q)) := by
      congr 1
      funext q
      exact decide_eq_decide.2 ⟨fun h => h.symm, fun h => h.symm⟩
    rw [e]
    cases ha : (gm.rules.take i).any (fun q => decide (rul gm.rules i = q))
    · simp only [go_sem, Nat.reduceEqDiff]
      have d28 : f 24 = .int .i64 i := h28
      rw [zm_ (by omega) (by omega)]
      refine ⟨⟨i + 1, hlt, rfl, zf_ (zf_ g2 g24) (zf_ g5 g6), fun l hl => ?_⟩, ?_⟩
      · rcases Nat.lt_succ_iff_lt_or_eq.1 hl with h | rfl
        · exact hpre l h
        · simp only [zbd_, hr, h5, hs, ha, decide_true, Bool.not_false, Bool.and_self]
      · simp only [intOf]
        omega
    · simp only [go_sem, Nat.reduceEqDiff]
      exact k0 (by simp only [zbd_, ha, Bool.not_true, Bool.and_false]) _ (zf_ gw5 g6)
  · simp only [show ¬ (i : Int) < gm.rules.length from by omega, decide_false, go_sem, Nat.reduceEqDiff]
    have := hk _ (zf_ g1 g2)
    rwa [show zab_ gm = true from by simp only [zab_, hn, ht, hl, decide_true, Bool.true_and]; exact zim_ fun j hj => hpre j (by omega)] at this
end Go.Proofs.Yteabbgaffgpegaa

namespace Go.Sh
open Go
end Go.Sh
namespace Go.Proofs.Yteabbgaffgpegaa
open Go Go.Sh Go.RowKit

end Go.Proofs.Yteabbgaffgpegaa

namespace Go.Sh
open Go
def gmn (gs : List Gram) (j : Nat) : Gram := gs.getD j ⟨0, 0, []⟩
structure GramsF (F : Nat → Prop) (w : World) (X : Option Addr) (gs : List Gram) : Prop where
  le : gs.length ≤ 9223372036854775807
  ptr : 0 < gs.length → X = some (ad X)
  foot : 0 < gs.length → F (ad X).block
  row : ∀ j, j < gs.length → ∃ Y c, w.cell? ((ad X).add (j * 3)) = some (.int .i64 (gmn gs j).nons) ∧ w.cell? ((ad X).add (j * 3 + 1)) = some (.int .i64 (gmn gs j).toks) ∧ w.cell? ((ad X).add (j * 3 + 2)) = some (.slice Y (gmn gs j).rules.length c) ∧ (gmn gs j).rules.length ≤ c ∧ RulesF F w Y (gmn gs j).rules
theorem GramsF.gx {F D : Nat → Prop} {w w' : World} {X : Option Addr} {gs : List Gram} (h : GramsF F w X gs) (g : Gx D w w') (hn : ∀ b, F b → ¬ D b) : GramsF F w' X gs := by
  refine ⟨h.le, h.ptr, h.foot, fun j hj => ?_⟩
  obtain ⟨Y, c, h1, h2, h3, h4, h5⟩ := h.row j hj
  have hf := hn _ (h.foot (by omega))
  exact ⟨Y, c, g.cell h1 (by rw [zac_]; exact hf), g.cell h2 (by rw [zac_]; exact hf), g.cell h3 (by rw [zac_]; exact hf), h4, h5.gx g hn⟩
theorem good_len {g : Gram} (hg : zab_ g = true) : g.rules.length ≤ 16 := by
  simp only [zab_, Bool.and_eq_true, decide_eq_true_eq] at hg
  exact hg.1.2
def From (w : World) (X0 X : Option Addr) : Prop := ∀ q, blk X = some q → q < w.heap.size → blk X0 = some q
theorem From.moved {w w2 : World} {X0 X X' : Option Addr} (h : From w X0 X) (hm : Moved w2 X X') (hs : w.heap.size ≤ w2.heap.size) : From w X0 X' := by
  intro q hq hlt
  rcases hm with e | e
  · exact h q (e ▸ hq) hlt
  · have := e q hq
    omega
abbrev zeroGram : Value := .agg #[.int .i64 0, .int .i64 0, .slice none 0 0]
end Go.Sh
namespace Go.Proofs.Yteabbgaffgpegaa
open Go Go.Sh Go.RowKit

end Go.Proofs.Yteabbgaffgpegaa

namespace Go.Sh
open Go
def GramR (w : World) (B : Nat) (v : Value) : Option Gram → Prop
  | some m => GramO w B v m
  | none => v = zeroGram
theorem GramR.put {w w' : World} {B b t : Nat} {v : Value} {o : Option Gram} {cs : List Value} (h : GramR w B v o) (hb : Box w b cs t) (h1 : 106 ≠ t) (h2 : 3 ≠ t) (g : w.grownBy w' (some b)) : GramR w' B v o := by
  cases o with
  | none => exact h
  | some m =>
    obtain ⟨X, c, ps, e, ho⟩ := h
    exact ⟨X, c, ps, e, ho.put hb h1 h2 g⟩
end Go.Sh
namespace Go.Proofs.Yteabbgaffgpegaa
open Go Go.Sh Go.RowKit

end Go.Proofs.Yteabbgaffgpegaa

namespace Go.Sh
open Go
theorem zhi_ {g : Gram} (hg : zab_ g = true) : ∀ i, i < g.rules.length → (rul g.rules i).2.length ≤ 4 := fun i hi => by
  simp only [zab_, Bool.and_eq_true, List.all_eq_true] at hg
  have := hg.2 i (List.mem_range.2 hi)
  simp only [zbd_, Bool.and_eq_true, decide_eq_true_eq] at this
  exact this.1.1.2
end Go.Sh
namespace Go.Proofs.Yteabbgaffgpegaa
open Go Go.Sh Go.RowKit

end Go.Proofs.Yteabbgaffgpegaa

namespace Go.Sh
open Go
def rgt (rl : List (List Int)) (j : Nat) : List Int := rl.getD j []
structure Intss (w : World) (X : Option Addr) (rl : List (List Int)) : Prop where
  le : rl.length ≤ 9223372036854775807
  ptr : 0 < rl.length → X = some (ad X)
  row : ∀ j, j < rl.length → ∃ Y c, w.cell? ((ad X).add j) = some (.slice Y (rgt rl j).length c) ∧ (rgt rl j).length ≤ c ∧ Ints w Y (rgt rl j)
theorem Intss.gr {w w' : World} {X : Option Addr} {rl : List (List Int)} (h : Intss w X rl) (g : Gr w w') : Intss w' X rl := ⟨h.le, h.ptr, fun j hj => by
  obtain ⟨Y, c, h1, h2, h3⟩ := h.row j hj
  exact ⟨Y, c, g.cell h1, h2, h3.gr g⟩⟩
theorem OwnR.congr {e1 e2 : Nat} {w : World} {B c : Nat} {X : Option Addr} {rs : List RuleL} {ps qs : Nat → Option Addr × Nat} (h : OwnR e1 e2 w B X c rs ps) (he : ∀ j, j < rs.length → qs j = ps j) : OwnR e1 e2 w B X c rs qs := by
  obtain ⟨⟨cells, hr, hc⟩, ho, ht⟩ := h
  refine ⟨⟨cells, hr, fun j hj => by rw [he j hj]; exact hc j hj⟩, fun j hj => by rw [he j hj]; exact ho j hj, fun i j hi hj hij => ?_⟩
  rw [he i hi, he j hj]
  exact ht i j hi hj hij
theorem blk_sym {U V : Option Addr} (h : blk U = none ∨ blk U ≠ blk V) : blk V = none ∨ blk V ≠ blk U := by
  cases hq : blk V with
  | none => exact .inl rfl
  | some q =>
    refine .inr fun e => ?_
    rcases h with h | h
    · rw [h] at e; cases e
    · exact h (by rw [hq, e])
end Go.Sh
namespace Go.Proofs.Yteabbgaffgpegaa
open Go Go.Sh Go.RowKit

end Go.Proofs.Yteabbgaffgpegaa

namespace Go.Sh
open Go
def emp : Thing := ⟨fun _ => True, fun _ => False⟩
theorem Apt.join {w0 w w' : World} {L : List Thing} (H : Apt w0 w L) {i j : Nat} {a b it : Thing} (hij : i ≠ j) (hi : L[i]? = some a) (hj : L[j]? = some b) (g : Gx (fun q => a.ft q ∨ b.ft q) w w') (lo : ∀ q, it.ft q → a.ft q ∨ b.ft q ∨ w.heap.size ≤ q) (hh : ∀ q, it.ft q → q < w'.heap.size)
    (kept : ∀ w'', (∀ q, it.ft q → w''.heap[q]? = w'.heap[q]?) → it.P w'') : Apt w0 w' ((L.set i it).set j emp) := by
  have ha := H.ok i a hi
  have hb := H.ok j b hj
  have hsz := H.gr.size
  have sub : ∀ l x, ((L.set i it).set j emp)[l]? = some x → (l = j ∧ x = emp) ∨ (l = i ∧ l ≠ j ∧ x = it) ∨ (l ≠ i ∧ l ≠ j ∧ L[l]? = some x) := fun l x hx => by
    rcases zgh_ hx with h | ⟨h1, h2⟩
    · exact .inl h
    · rcases zgh_ h2 with ⟨h3, h4⟩ | ⟨h3, h4⟩
      · exact .inr (.inl ⟨h3, h1, h4⟩)
      · exact .inr (.inr ⟨h3, h1, h4⟩)
  refine ⟨Gx.gr_after H.gr g fun q hq => hq.elim (ha.lo q) (hb.lo q), fun l x hx => ?_, fun l m x y hlm hx hy q hq hq' => ?_⟩
  · rcases sub l x hx with ⟨_, rfl⟩ | ⟨_, _, rfl⟩ | ⟨h1, h2, h3⟩
    · exact ⟨fun q hq => hq.elim, fun q hq => hq.elim, fun _ _ => trivial⟩
    · refine ⟨fun q hq => ?_, hh, kept⟩
      rcases lo q hq with h | h | h
      · exact ha.lo q h
      · exact hb.lo q h
      · omega
    · have := H.ok l x h3
      exact this.step g.size fun q hq => g.block q (this.hi q hq) fun hq' => hq'.elim (H.two l i x a h1 h3 hi q hq) (H.two l j x b h2 h3 hj q hq)
  · rcases sub l x hx with ⟨_, rfl⟩ | ⟨hli, _, rfl⟩ | ⟨h1, h2, h3⟩
    · exact hq
    · rcases sub m y hy with ⟨_, rfl⟩ | ⟨hmi, _, rfl⟩ | ⟨g1, g2, g3⟩
      · exact hq'
      · exact hlm (hli.trans hmi.symm)
      · rcases lo q hq with h | h | h
        · exact H.two i m a y (fun e => g1 e.symm) hi g3 q h hq'
        · exact H.two j m b y (fun e => g2 e.symm) hj g3 q h hq'
        · have := (H.ok m y g3).hi q hq'
          omega
    · rcases sub m y hy with ⟨_, rfl⟩ | ⟨hmi, _, rfl⟩ | ⟨g1, g2, g3⟩
      · exact hq'
      · rcases lo q hq' with h | h | h
        · exact H.two l i x a h1 h3 hi q hq h
        · exact H.two l j x b h2 h3 hj q hq h
        · have := (H.ok l x h3).hi q hq
          omega
      · exact H.two l m x y hlm h3 g3 q hq hq'
structure OwnSS (e1 e2 : Nat) (w : World) (B : Nat) (X : Option Addr) (c : Nat) (ls : List (List Int)) (ps : Nat → Option Addr × Nat) : Prop where
  row : ∃ cells, Row w B e1 1 X ls.length c cells ∧ ∀ j, j < ls.length → cells[j]? = some (.slice (ps j).1 (rgt ls j).length (ps j).2)
  own : ∀ j, j < ls.length → Own e2 w B (ps j).1 (ps j).2 (rgt ls j)
  two : ∀ i j, i < ls.length → j < ls.length → i ≠ j → blk (ps i).1 = none ∨ blk (ps i).1 ≠ blk (ps j).1
theorem OwnSS.same {e1 e2 : Nat} {w w' : World} {B : Nat} {X : Option Addr} {c : Nat} {ls : List (List Int)} {ps : Nat → Option Addr × Nat} (h : OwnSS e1 e2 w B X c ls ps) (hs : ∀ q, Foot X ps ls.length q → w'.heap[q]? = w.heap[q]?) : OwnSS e1 e2 w' B X c ls ps := by
  obtain ⟨⟨cells, hr, hc⟩, ho, ht⟩ := h
  exact ⟨⟨cells, hr.same fun q hq => hs q (.inl hq), hc⟩, fun j hj => Row.same (ho j hj) fun q hq => hs q (.inr ⟨j, hj, hq⟩), ht⟩
theorem OwnSS.up {e1 e2 : Nat} {w : World} {B B' : Nat} {X : Option Addr} {c : Nat} {ls : List (List Int)} {ps : Nat → Option Addr × Nat} (h : OwnSS e1 e2 w B X c ls ps) (hs : ∀ q, Foot X ps ls.length q → B' ≤ q) : OwnSS e1 e2 w B' X c ls ps := by
  obtain ⟨⟨cells, hr, hc⟩, ho, ht⟩ := h
  exact ⟨⟨cells, hr.up fun q hq => hs q (.inl hq), hc⟩, fun j hj => Row.up (ho j hj) fun q hq => hs q (.inr ⟨j, hj, hq⟩), ht⟩
theorem OwnSS.mono {e1 e2 : Nat} {w : World} {B B' : Nat} {X : Option Addr} {c : Nat} {ls : List (List Int)} {ps : Nat → Option Addr × Nat} (h : OwnSS e1 e2 w B X c ls ps) (hb : B' ≤ B) : OwnSS e1 e2 w B' X c ls ps := by
  obtain ⟨⟨cells, hr, hc⟩, ho, ht⟩ := h
  exact ⟨⟨cells, Row.mono hr hb, hc⟩, fun j hj => Row.mono (ho j hj) hb, ht⟩
theorem OwnSS.foot {e1 e2 : Nat} {w : World} {B c : Nat} {X : Option Addr} {ls : List (List Int)} {ps : Nat → Option Addr × Nat} (h : OwnSS e1 e2 w B X c ls ps) {q : Nat} (hq : Foot X ps ls.length q) : B ≤ q ∧ q < w.heap.size := by
  obtain ⟨⟨cells, hr, hc⟩, ho, ht⟩ := h
  rcases hq with hq | ⟨l, hl, hq⟩
  · exact hr.ge hq
  · exact Row.ge (ho l hl) hq
theorem OwnSS.gr {e1 e2 : Nat} {w w' : World} {B : Nat} {X : Option Addr} {c : Nat} {ls : List (List Int)} {ps : Nat → Option Addr × Nat} (h : OwnSS e1 e2 w B X c ls ps) (g : Gr w w') : OwnSS e1 e2 w' B X c ls ps := h.same fun q hq => g.block q (h.foot hq).2 (by simp)
theorem OwnSS.read {e1 e2 : Nat} {w : World} {B : Nat} {X : Option Addr} {c : Nat} {ls : List (List Int)} {ps : Nat → Option Addr × Nat} (h : OwnSS e1 e2 w B X c ls ps) : Intss w X ls := by
  obtain ⟨⟨cells, hr, hc⟩, ho, ht⟩ := h
  have hcap := hr.cap
  refine ⟨by omega, fun hp => hr.ptr hp, fun j hj => ?_⟩
  have hc' := Row.cap (ho j hj)
  exact ⟨(ps j).1, (ps j).2, hr.src.cell _ _ (hc j hj), by omega, Own.ints (ho j hj)⟩
def lssi (e1 e2 : Nat) (X : Option Addr) (c : Nat) (ls : List (List Int)) (ps : Nat → Option Addr × Nat) : Thing := ⟨fun w => OwnSS e1 e2 w 0 X c ls ps, Foot X ps ls.length⟩
theorem zvg_ {w : World} {B e1 e2 c : Nat} {X : Option Addr} {ls : List (List Int)} {ps : Nat → Option Addr × Nat} (h : OwnSS e1 e2 w B X c ls ps) : ∀ w', (∀ q, (lssi e1 e2 X c ls ps).ft q → w'.heap[q]? = w.heap[q]?) → (lssi e1 e2 X c ls ps).P w' := fun w' hq => (h.mono (Nat.zero_le B)).same hq
theorem Apt.lssi {w0 w : World} {L : List Thing} (H : Apt w0 w L) (i : Nat) {e1 e2 c : Nat} {X : Option Addr} {ls : List (List Int)} {ps : Nat → Option Addr × Nat} (hi : L[i]? = some (lssi e1 e2 X c ls ps)) : OwnSS e1 e2 w w0.heap.size X c ls ps := OwnSS.up (H.get i hi) (H.ok i _ hi).lo
theorem Apt.addLss {w0 w w' : World} {L : List Thing} (H : Apt w0 w L) (g : Gr w w') {e1 e2 c : Nat} {X : Option Addr} {ls : List (List Int)} {ps : Nat → Option Addr × Nat} (h : OwnSS e1 e2 w' w.heap.size X c ls ps) : Apt w0 w' (L ++ [Sh.lssi e1 e2 X c ls ps]) := H.add g _ (fun q hq => (h.foot hq).1) (fun q hq => (h.foot hq).2) (zvg_ h)
theorem OwnSS.nil (w : World) (B e1 e2 : Nat) (ps : Nat → Option Addr × Nat) : OwnSS e1 e2 w B none 0 [] ps := ⟨⟨[], Row.nil _ _ _ _, fun j hj => by simp at hj⟩, fun j hj => by simp at hj, fun i j hi => by simp at hi⟩
theorem zpg_ {ls ms : List (List Int)} {i : Nat} (h : i < ls.length) : rgt (ls ++ ms) i = rgt ls i := by
  simp [rgt, List.getD_eq_getElem?_getD, List.getElem?_append_left h]
theorem rgt_last {ls : List (List Int)} {y : List Int} : rgt (ls ++ [y]) ls.length = y := by
  simp [rgt, List.getD_eq_getElem?_getD]
theorem rgt_eq {ls : List (List Int)} {i : Nat} (h : i < ls.length) : rgt ls i = ls[i] := by simp [rgt, List.getD_eq_getElem?_getD, h]
theorem zgd_ {ls : List (List Int)} {i : Nat} (h : i < ls.length) : ls.take (i + 1) = ls.take i ++ [rgt ls i] := by
  rw [List.take_succ_eq_append_getElem h, rgt_eq h]
theorem OwnSS.push {e1 e2 : Nat} {w w' : World} {B B' c d c' : Nat} {X X' Y : Option Addr} {ls : List (List Int)} {ys : List Int} {ps : Nat → Option Addr × Nat} {cells : List Value} (h : OwnSS e1 e2 w B X c ls ps) (ho : Own e2 w B' Y d ys) (hne : ∀ l, l < ls.length → blk (ps l).1 = none ∨ blk (ps l).1 ≠ blk Y) (he : e1 ≠ e2)
    (hr0 : Row w B e1 1 X ls.length c cells) (hc : ∀ j, j < ls.length → cells[j]? = some (.slice (ps j).1 (rgt ls j).length (ps j).2)) (hr : Row w' B e1 1 X' (ls.length + 1) c' (cells ++ [.slice Y ys.length d])) (g : w.grownBy w' (blk X)) : OwnSS e1 e2 w' 0 X' c' (ls ++ [ys]) (fun i => if i = ls.length then (Y, d) else ps i) := by
  have hlen := hr0.len
  refine ⟨⟨_, by rw [List.length_append]; exact Row.mono hr (Nat.zero_le _), fun j hj => ?_⟩, fun j hj => ?_, fun i j hi hj hij => ?_⟩
  · by_cases hlt : j < ls.length
    · rw [List.getElem?_append_left (by omega), hc j hlt, zpg_ hlt, if_neg (by omega)]
    · obtain rfl : j = ls.length := by simp at hj; omega
      rw [List.getElem?_append_right (by omega), rgt_last, if_pos rfl, hlen]
      simp
  · by_cases hlt : j < ls.length
    · rw [if_neg (by omega), zpg_ hlt]
      exact Row.mono (Row.kept (h.own j hlt) g (zte_ (h.own j hlt) hr0 fun e => he e.symm)) (Nat.zero_le _)
    · obtain rfl : j = ls.length := by simp at hj; omega
      rw [if_pos rfl, rgt_last]
      exact Row.mono (Row.kept ho g (zte_ ho hr0 fun e => he e.symm)) (Nat.zero_le _)
  · rw [List.length_append] at hi hj
    simp only [List.length_cons, List.length_nil] at hi hj
    by_cases h1 : i < ls.length <;> by_cases h2 : j < ls.length
    · rw [if_neg (by omega), if_neg (by omega)]
      exact h.two i j h1 h2 hij
    · obtain rfl : j = ls.length := by omega
      rw [if_neg (by omega), if_pos rfl]
      exact hne i h1
    · obtain rfl : i = ls.length := by omega
      rw [if_pos rfl, if_neg (by omega)]
      exact blk_sym (hne j h2)
    · omega
theorem zii_ {ls ms : List (List Int)} {i : Nat} (h : ls.length ≤ i) : rgt (ls ++ ms) i = rgt ms (i - ls.length) := by
  simp [rgt, List.getD_eq_getElem?_getD, List.getElem?_append_right h]
theorem OwnSS.append {e1 e2 : Nat} {w w' : World} {B B' c d c' : Nat} {X X' Y : Option Addr} {ls ms : List (List Int)} {ps qs : Nat → Option Addr × Nat} {cells news : List Value} (h : OwnSS e1 e2 w B X c ls ps) (g0 : OwnSS e1 e2 w B' Y d ms qs) (hne : ∀ l m, l < ls.length → m < ms.length → blk (ps l).1 = none ∨ blk (ps l).1 ≠ blk (qs m).1) (he : e1 ≠ e2)
    (hr0 : Row w B e1 1 X ls.length c cells) (hc : ∀ j, j < ls.length → cells[j]? = some (.slice (ps j).1 (rgt ls j).length (ps j).2)) (hnl : news.length = ms.length) (hN : ∀ j, j < ms.length → news[j]? = some (.slice (qs j).1 (rgt ms j).length (qs j).2)) (hr : Row w' B e1 1 X' (ls.length + ms.length) c' (cells ++ news)) (g : w.grownBy w' (blk X)) : OwnSS e1 e2 w' 0 X' c' (ls ++ ms) (joinP ls.length ps qs) := by
  have hlen := hr0.len
  refine ⟨⟨_, by rw [List.length_append]; exact Row.mono hr (Nat.zero_le _), fun j hj => ?_⟩, fun j hj => ?_, fun i j hi hj hij => ?_⟩
  · rw [List.length_append] at hj
    by_cases hlt : j < ls.length
    · rw [List.getElem?_append_left (by omega), hc j hlt, zpg_ hlt]
      simp only [joinP, hlt, if_true]
    · rw [List.getElem?_append_right (by omega), zii_ (by omega)]
      simp only [joinP, hlt, if_false]
      rw [show j - cells.length = j - ls.length from by omega]
      exact hN _ (by omega)
  · rw [List.length_append] at hj
    by_cases hlt : j < ls.length
    · rw [zpg_ hlt]
      simp only [joinP, hlt, if_true]
      exact Row.mono (Row.kept (h.own j hlt) g (zte_ (h.own j hlt) hr0 fun e => he e.symm)) (Nat.zero_le _)
    · rw [zii_ (by omega)]
      simp only [joinP, hlt, if_false]
      exact Row.mono (Row.kept (g0.own _ (by omega)) g (zte_ (g0.own _ (by omega)) hr0 fun e => he e.symm)) (Nat.zero_le _)
  · rw [List.length_append] at hi hj
    by_cases h1 : i < ls.length <;> by_cases h2 : j < ls.length <;> simp only [joinP, h1, h2, if_true, if_false]
    · exact h.two i j h1 h2 hij
    · exact hne i _ h1 (by omega)
    · exact blk_sym (hne j _ h2 (by omega))
    · exact g0.two _ _ (by omega) (by omega) (by omega)
theorem OwnSS.put {e1 e2 : Nat} {w w' : World} {B c i m : Nat} {x : Int} {X : Option Addr} {ls : List (List Int)} {ps : Nat → Option Addr × Nat} (h : OwnSS e1 e2 w B X c ls ps) (he : e1 ≠ e2) (hi : i < ls.length) (hr : Row w' B e2 1 (ps i).1 (rgt ls i).length (ps i).2 (ints ((rgt ls i).set m x))) (g : w.grownBy w' (blk (ps i).1)) : OwnSS e1 e2 w' B X c (ls.set i ((rgt ls i).set m x)) ps := by
  obtain ⟨⟨cells, hr0, hc⟩, ho, ht⟩ := h
  have hg : ∀ j, rgt (ls.set i ((rgt ls i).set m x)) j = if j = i then (rgt ls i).set m x else rgt ls j := fun j => by
    simp only [rgt, List.getD_eq_getElem?_getD, List.getElem?_set]
    by_cases hij : i = j
    · subst hij
      simp [hi]
    · rw [if_neg hij, if_neg (fun e => hij e.symm)]
  refine ⟨⟨cells, by rw [List.length_set]; exact Row.kept hr0 g (zte_ hr0 (ho i hi) he), fun j hj => ?_⟩, fun j hj => ?_, fun a b ha hb hab => ?_⟩
  · rw [List.length_set] at hj
    rw [hc j hj, hg j]
    by_cases hij : j = i
    · subst hij
      rw [if_pos rfl, List.length_set]
    · rw [if_neg hij]
  · rw [List.length_set] at hj
    rw [hg j]
    by_cases hij : j = i
    · subst hij
      rw [if_pos rfl]
      unfold Own
      rw [List.length_set]
      exact hr
    · rw [if_neg hij]
      exact Row.kept (ho j hj) g (ht j i hj hi hij)
  · rw [List.length_set] at ha hb
    exact ht a b ha hb hab
theorem OwnSS.ptr {e1 e2 : Nat} {w : World} {B c : Nat} {X : Option Addr} {ls : List (List Int)} {ps : Nat → Option Addr × Nat} (h : OwnSS e1 e2 w B X c ls ps) (hl : 0 < ls.length) : X = some (ad X) := by
  obtain ⟨⟨cells, hr, hc⟩, _⟩ := h
  exact hr.ptr hl
theorem OwnSS.cell {e1 e2 : Nat} {w : World} {B c : Nat} {X : Option Addr} {ls : List (List Int)} {ps : Nat → Option Addr × Nat} (h : OwnSS e1 e2 w B X c ls ps) {j : Nat} (hj : j < ls.length) : w.cell? ((ad X).add j) = some (.slice (ps j).1 (rgt ls j).length (ps j).2) := by
  obtain ⟨⟨cells, hr, hc⟩, _⟩ := h
  exact hr.src.cell _ _ (hc j hj)
theorem Apt.single {w0 w : World} {L : List Thing} (H : Apt w0 w L) {i j : Nat} (hij : i ≠ j) {e1 e2 c d : Nat} {X Y : Option Addr} {ys : List Int} (hi : L[i]? = some (rwi e1 1 X 1 c [.slice Y ys.length d])) (hj : L[j]? = some (rwi e2 1 Y ys.length d (Sh.ints ys))) : Apt w0 w ((L.set i (Sh.lssi e1 e2 X c [ys] fun _ => (Y, d))).set j emp) := by
  have hr := H.row i hi
  have ho := H.row j hj
  have o : OwnSS e1 e2 w w0.heap.size X c [ys] fun _ => (Y, d) := by
    refine ⟨⟨_, hr, fun l hl => ?_⟩, fun l hl => ?_, fun a b ha hb hab => ?_⟩
    · obtain rfl : l = 0 := by simpa using hl
      rfl
    · obtain rfl : l = 0 := by simpa using hl
      exact ho
    · simp at ha hb
      omega
  refine H.join hij hi hj (Gx.refl _ w) (fun q hq => ?_) (fun q hq => (o.foot hq).2) (zvg_ o)
  rcases hq with hq | ⟨l, hl, hq⟩
  · exact .inl hq
  · exact .inr (.inl hq)
end Go.Sh
namespace Go.Proofs.Yteabbgaffgpegaa
open Go Go.Sh Go.RowKit
abbrev lss (X : Option Addr) (c : Nat) (ls : List (List Int)) (ps : Nat → Option Addr × Nat) : Thing := lssi 27 3 X c ls ps
section
variable {k : Value → World → Prop} {w0 w w' : World} {L : List Thing}
theorem pushSSH {k : Value → Value → World → Prop} (H : Apt w0 w L) (i j : Nat) (hij : i ≠ j) {u n c m d : Nat} {X Y : Option Addr} {ls : List (List Int)} {ys : List Int} {ps : Nat → Option Addr × Nat} (hi : L[i]? = some (lss X c ls ps)) (hj : L[j]? = some (ows Y d ys)) {cs : List Bool} (hn : n = ls.length) (hm : m = ys.length) (hb : ls.length ≤ 1000000000)
    (h : ∀ t X' c' w' ps', Apt w0 w' ((L.set i (lss X' c' (ls ++ [ys]) ps')).set j emp) → k t (.slice X' (ls ++ [ys]).length c') w') : Do Try.prog (zh_ 35 1 [(0, .slice Y m d)]) (fun t w1 => Do Try.prog (ze_ .append #[35, 35] u cs [.slice X n c, t]) (k t) w1) w := by
  subst hn hm
  refine bs35 [.slice Y ys.length d] (by decide) (by simp [Instr.fill, madeCells, Value.cells, rng1]) rfl fun b w1 hb1 hb2 g hB hr => ?_
  have H1 := H.step g
  have o1 := H1.lssi i hi
  have o1' := o1
  obtain ⟨⟨cells, hr1, hc⟩, ho, ht⟩ := o1'
  have hY : Own 3 w1 w0.heap.size Y d ys := H1.own j hj
  refine zdg_ u35 inf27 rfl (by decide) hr1 (Row.src (hr _ (Nat.le_refl _))) rfl (by intro v hv; simp at hv; subst hv; rfl) (by omega) (by omega) H1.gr.size fun X' c' w' hr' hg hmv => ?_
  rw [show ls.length + 1 = (ls ++ [ys]).length from by simp]
  refine h _ X' c' w' (fun i => if i = ls.length then (Y, d) else ps i) (H1.join hij hi hj (gx_of hg fun q hq => .inl (.inl hq)) (fun q hq => ?_) (fun q hq => ?_) ?_)
  · rcases hq with hq | ⟨l, hl, hq⟩
    · rcases hmv with e | e
      · exact .inl (.inl (e ▸ hq))
      · exact .inr (.inr (e q hq))
    · rw [List.length_append] at hl
      simp only [List.length_cons, List.length_nil] at hl
      by_cases h1 : l = ls.length
      · subst h1
        simp only [if_true] at hq
        exact .inr (.inl hq)
      · simp only [h1, if_false] at hq
        exact .inl (.inr ⟨l, by omega, hq⟩)
  · have := (o1.push hY (fun l hl => by
      cases hq : blk (ps l).1 with
      | none => exact .inl rfl
      | some q => exact .inr fun e => H1.two i j _ _ hij hi hj q (.inr ⟨l, hl, hq⟩) (show blk Y = some q from e.symm)) (by decide) hr1 hc hr' hg)
    exact (this.foot hq).2
  · exact zvg_ (o1.push hY (fun l hl => by
      cases hq : blk (ps l).1 with
      | none => exact .inl rfl
      | some q => exact .inr fun e => H1.two i j _ _ hij hi hj q (.inr ⟨l, hl, hq⟩) (show blk Y = some q from e.symm)) (by decide) hr1 hc hr' hg)
end
end Go.Proofs.Yteabbgaffgpegaa

namespace Go.Sh
inductive PT where
  | mk (non : Int) (rule at_ fin fr to : Nat) (kids : List PT)
def PT.non : PT → Int | .mk n _ _ _ _ _ _ => n
def PT.rule : PT → Nat | .mk _ r _ _ _ _ _ => r
def PT.at_ : PT → Nat | .mk _ _ a _ _ _ _ => a
def PT.fin : PT → Nat | .mk _ _ _ e _ _ _ => e
def PT.fr : PT → Nat | .mk _ _ _ _ f _ _ => f
def PT.to : PT → Nat | .mk _ _ _ _ _ t _ => t
def PT.kids : PT → List PT | .mk _ _ _ _ _ _ k => k
def okT (rs : List RuleL) (tree : List Int) (non : Int) (a : Nat) : Bool :=
  decide (a < tree.length) && (decide (0 ≤ tree.getD a 0) && decide (tree.getD a 0 ≤ (rs.length : Int) - 1)) && decide ((rul rs (tree.getD a 0).toNat).1 = non)
def rgtT (rs : List RuleL) (tree : List Int) (a : Nat) : List Int := (rul rs (tree.getD a 0).toNat).2
def readR (rec : Int → Nat → List Int → Option (PT × List Int)) : List Int → Nat → List Int → List PT → Option (List PT × Nat × List Int)
  | [], e, w, ks => some (ks, e, w)
  | x :: xs, e, w, ks => if x < 0 then readR rec xs e (w ++ [-1 - x]) ks else match rec x e w with
    | none => none
    | some (k, w') => readR rec xs k.fin w' (ks ++ [k])
def readT (rs : List RuleL) (tree : List Int) : Nat → Int → Nat → List Int → Option (PT × List Int)
  | 0, _, _, _ => none
  | f + 1, non, a, w => if okT rs tree non a = true then match readR (readT rs tree f) (rgtT rs tree a) (a + 1) w [] with
      | none => none
      | some (ks, e, w') => some (.mk non (tree.getD a 0).toNat a e w.length w'.length ks, w')
    else none
def endR (rec : Int → Nat → Option Nat) : List Int → Nat → Option Nat
  | [], e => some e
  | x :: xs, e => if x < 0 then endR rec xs e else match rec x e with
    | none => none
    | some e' => endR rec xs e'
def endT (rs : List RuleL) (tree : List Int) : Nat → Int → Nat → Option Nat
  | 0, _, _ => none
  | f + 1, non, a => if okT rs tree non a = true then endR (endT rs tree f) (rgtT rs tree a) (a + 1) else none
theorem endR_eq {rec : Int → Nat → List Int → Option (PT × List Int)} {rec' : Int → Nat → Option Nat} (h : ∀ x a w, rec' x a = (rec x a w).map fun z => z.1.fin) : ∀ (xs : List Int) (e : Nat) (w : List Int) (ks : List PT), endR rec' xs e = (readR rec xs e w ks).map fun z => z.2.1 := by
  intro xs
  induction xs with
  | nil => intro e w ks; rfl
  | cons x xs ih =>
    intro e w ks
    unfold endR readR
    by_cases hx : x < 0
    · rw [if_pos hx, if_pos hx]
      exact ih _ _ _
    · rw [if_neg hx, if_neg hx, h x e w]
      cases rec x e w with
      | none => rfl
      | some z => exact ih _ _ _
theorem endT_eq (rs : List RuleL) (tree : List Int) : ∀ (f : Nat) (non : Int) (a : Nat) (w : List Int), endT rs tree f non a = (readT rs tree f non a w).map fun z => z.1.fin := by
  intro f
  induction f with
  | zero => intro non a w; rfl
  | succ f ih =>
    intro non a w
    unfold endT readT
    by_cases hk : okT rs tree non a = true
    · rw [if_pos hk, if_pos hk, endR_eq ih _ _ w []]
      cases readR (readT rs tree f) (rgtT rs tree a) (a + 1) w [] <;> rfl
    · rw [if_neg hk, if_neg hk]
      rfl
mutual
def PT.parts : PT → List PT
  | .mk n r a e f t ks => .mk n r a e f t ks :: PT.partsL ks
def PT.partsL : List PT → List PT
  | [] => []
  | k :: ks => k.parts ++ PT.partsL ks
end
theorem zyf_ (ks ls : List PT) : PT.partsL (ks ++ ls) = PT.partsL ks ++ PT.partsL ls := by
  induction ks with
  | nil => simp [PT.partsL]
  | cons k ks ih => simp [PT.partsL, ih]
theorem parts_cons (p : PT) : p.parts = p :: PT.partsL p.kids := by
  cases p
  simp [PT.parts, PT.kids]
def Laid (l : List PT) (a : Nat) : Prop := ∀ i, (h : i < l.length) → l[i].at_ = a + i ∧ l[i].fin ≤ a + l.length ∧ a + i < l[i].fin ∧ l[i].parts = (l.drop i).take (l[i].fin - (a + i))
theorem Laid.append {l m : List PT} {a : Nat} (h : Laid l a) (g : Laid m (a + l.length)) : Laid (l ++ m) a := by
  intro i hi
  by_cases hl : i < l.length
  · obtain ⟨h1, h2, h3, h4⟩ := h i hl
    rw [List.getElem_append_left hl]
    refine ⟨h1, by simp; omega, h3, ?_⟩
    rw [List.drop_append_of_le_length (by omega), List.take_append_of_le_length (by simp; omega)]
    exact h4
  · obtain ⟨d, rfl⟩ : ∃ d, i = l.length + d := ⟨i - l.length, by omega⟩
    have hm : d < m.length := by simp at hi; omega
    obtain ⟨h1, h2, h3, h4⟩ := g d hm
    have e : (l ++ m)[l.length + d] = m[d] := by
      rw [List.getElem_append_right (by omega)]
      simp
    rw [e]
    have hlen : (l ++ m).length = l.length + m.length := List.length_append
    refine ⟨?_, ?_, ?_, ?_⟩
    · omega
    · omega
    · omega
    · have e2 : (l ++ m).drop (l.length + d) = m.drop d := by
        rw [← List.drop_drop, List.drop_left]
      rw [h4, e2, Nat.add_assoc]
theorem readR_laid {rec : Int → Nat → List Int → Option (PT × List Int)} (h : ∀ x a w p w', rec x a w = some (p, w') → Laid p.parts a ∧ p.fin = a + p.parts.length ∧ p.at_ = a ∧ p.non = x ∧ p.fr = w.length ∧ p.to = w'.length ∧ w.length ≤ w'.length) :
    ∀ (xs : List Int) (e : Nat) (w : List Int) (ks : List PT) (a : Nat) {ks' : List PT} {e' : Nat} {w' : List Int}, Laid (PT.partsL ks) a → e = a + (PT.partsL ks).length → readR rec xs e w ks = some (ks', e', w') → Laid (PT.partsL ks') a ∧ e' = a + (PT.partsL ks').length ∧ w.length ≤ w'.length := by
  intro xs
  induction xs with
  | nil =>
    intro e w ks a ks' e' w' hl he hr
    simp only [readR, Option.some.injEq, Prod.mk.injEq] at hr
    obtain ⟨rfl, rfl, rfl⟩ := hr
    exact ⟨hl, he, Nat.le_refl _⟩
  | cons x xs ih =>
    intro e w ks a ks' e' w' hl he hr
    unfold readR at hr
    by_cases hx : x < 0
    · rw [if_pos hx] at hr
      obtain ⟨h1, h2, h3⟩ := ih _ _ _ _ hl he hr
      exact ⟨h1, h2, by simp at h3; omega⟩
    · rw [if_neg hx] at hr
      cases hz : rec x e w with
      | none => rw [hz] at hr; cases hr
      | some z =>
        obtain ⟨k, w1⟩ := z
        rw [hz] at hr
        obtain ⟨h1, h2, _, _, _, _, h3⟩ := h x e w k w1 hz
        have hl' : Laid (PT.partsL (ks ++ [k])) a := by
          rw [zyf_]
          refine hl.append ?_
          simp only [PT.partsL, List.append_nil]
          rw [← he]
          exact h1
        obtain ⟨g1, g2, g3⟩ := ih _ _ _ _ hl' (by rw [zyf_]; simp [PT.partsL]; omega) hr
        exact ⟨g1, g2, by omega⟩
theorem zfk_ (rs : List RuleL) (tree : List Int) : ∀ (f : Nat) (non : Int) (a : Nat) (w : List Int) (p : PT) (w' : List Int), readT rs tree f non a w = some (p, w') → Laid p.parts a ∧ p.fin = a + p.parts.length ∧ p.at_ = a ∧ p.non = non ∧ p.fr = w.length ∧ p.to = w'.length ∧ w.length ≤ w'.length := by
  intro f
  induction f with
  | zero => intro non a w p w' h; cases h
  | succ f ih =>
    intro non a w p w' h
    unfold readT at h
    by_cases hk : okT rs tree non a = true
    · rw [if_pos hk] at h
      cases hz : readR (readT rs tree f) (rgtT rs tree a) (a + 1) w [] with
      | none => rw [hz] at h; cases h
      | some z =>
        obtain ⟨ks, e, w1⟩ := z
        rw [hz] at h
        simp only [Option.some.injEq, Prod.mk.injEq] at h
        obtain ⟨rfl, rfl⟩ := h
        have h0 : Laid (PT.partsL []) (a + 1) := fun i hi => by simp [PT.partsL] at hi
        obtain ⟨h1, h2, h3⟩ := readR_laid ih _ _ _ _ (a + 1) h0 (by simp [PT.partsL]) hz
        refine ⟨?_, by simp [PT.parts, PT.fin]; omega, rfl, rfl, rfl, rfl, h3⟩
        rw [PT.parts]
        intro i hi
        cases i with
        | zero =>
          refine ⟨rfl, ?_, ?_, ?_⟩
          · simp [PT.fin]; omega
          · simp [PT.fin]; omega
          · simp only [List.getElem_cons_zero, PT.fin, List.drop_zero, PT.parts]
            rw [List.take_of_length_le]
            simp
            omega
        | succ i =>
          simp only [List.length_cons] at hi
          obtain ⟨g1, g2, g3, g4⟩ := h1 i (by omega)
          simp only [List.getElem_cons_succ, List.drop_succ_cons, List.length_cons]
          refine ⟨by rw [g1]; omega, by omega, by omega, ?_⟩
          rw [g4]
          congr 1
          omega
    · rw [if_neg hk] at h
      cases h
theorem readR_words {rec : Int → Nat → List Int → Option (PT × List Int)} (h : ∀ x a w p w', rec x a w = some (p, w') → w.length ≤ w'.length ∧ w'.length ≤ w.length + 4 * p.parts.length) :
    ∀ (xs : List Int) (e : Nat) (w : List Int) (ks : List PT) {ks' : List PT} {e' : Nat} {w' : List Int}, readR rec xs e w ks = some (ks', e', w') → w.length ≤ w'.length ∧ w'.length + 4 * (PT.partsL ks).length ≤ w.length + xs.length + 4 * (PT.partsL ks').length := by
  intro xs
  induction xs with
  | nil =>
    intro e w ks ks' e' w' hr
    simp only [readR, Option.some.injEq, Prod.mk.injEq] at hr
    obtain ⟨rfl, rfl, rfl⟩ := hr
    simp
  | cons x xs ih =>
    intro e w ks ks' e' w' hr
    unfold readR at hr
    split at hr
    · have := ih _ _ _ hr
      simp at this ⊢
      omega
    · split at hr
      · cases hr
      · rename_i k w1 hz
        have h1 := h _ _ _ _ _ hz
        have h2 := ih _ _ _ hr
        rw [zyf_] at h2
        simp [PT.partsL] at h2 ⊢
        omega
theorem readT_words {rs : List RuleL} {tree : List Int} (h4 : ∀ q, q < rs.length → (rul rs q).2.length ≤ 4) : ∀ (f : Nat) (non : Int) (a : Nat) (w : List Int) (p : PT) (w' : List Int), readT rs tree f non a w = some (p, w') → w.length ≤ w'.length ∧ w'.length ≤ w.length + 4 * p.parts.length := by
  intro f
  induction f with
  | zero => intro non a w p w' h; cases h
  | succ f ih =>
    intro non a w p w' h
    unfold readT at h
    split at h
    · rename_i hok
      split at h
      · cases h
      · rename_i ks e w1 hz
        simp only [Option.some.injEq, Prod.mk.injEq] at h
        obtain ⟨rfl, rfl⟩ := h
        have h1 := readR_words ih _ _ _ _ hz
        have h5 : (rgtT rs tree a).length ≤ 4 := by
          simp only [okT, Bool.and_eq_true, decide_eq_true_eq] at hok
          exact h4 _ (by omega)
        simp only [PT.parts, List.length_cons, PT.partsL, List.length_nil] at h1 ⊢
        omega
    · cases h
def PT.row (p : PT) : List Int := [p.non, p.fin, p.fr, p.to]
def noPT : PT := .mk 0 0 0 0 0 0 []
def ptn (l : List PT) (i : Nat) : PT := l.getD i noPT
open Go
def Away (a b : Thing) : Prop := ∀ q, a.ft q → ¬ b.ft q
theorem Away.symm {a b : Thing} (h : Away a b) : Away b a := fun q hq hq' => h q hq' hq
theorem apt_pair {L : List Thing} : (∀ (i j : Nat) (a b : Thing), i ≠ j → L[i]? = some a → L[j]? = some b → Away a b) ↔ L.Pairwise Away := by
  induction L with
  | nil => exact ⟨fun _ => .nil, fun _ i j a b _ h => by simp at h⟩
  | cons x L ih =>
    constructor
    · intro h
      refine List.Pairwise.cons (fun y hy => ?_) (ih.1 fun i j a b hij ha hb => h (i + 1) (j + 1) a b (by omega) (by simpa using ha) (by simpa using hb))
      obtain ⟨j, hj⟩ := List.getElem?_of_mem hy
      exact h 0 (j + 1) x y (by omega) rfl (by simpa using hj)
    · intro h i j a b hij ha hb
      obtain ⟨h1, h2⟩ := List.pairwise_cons.1 h
      match i, j with
      | 0, 0 => exact absurd rfl hij
      | 0, j + 1 =>
        obtain rfl : x = a := by simpa using ha
        exact h1 b (List.mem_of_getElem? (by simpa using hb))
      | i + 1, 0 =>
        obtain rfl : x = b := by simpa using hb
        exact (h1 a (List.mem_of_getElem? (by simpa using ha))).symm
      | i + 1, j + 1 => exact ih.2 h2 i j a b (by omega) (by simpa using ha) (by simpa using hb)
theorem Apt.perm {w0 w : World} {L M : List Thing} (H : Apt w0 w L) (p : L.Perm M) : Apt w0 w M := by
  refine ⟨H.gr, fun i it hi => ?_, apt_pair.2 ?_⟩
  · obtain ⟨j, hj⟩ := List.getElem?_of_mem (p.symm.subset (List.mem_of_getElem? hi))
    exact H.ok j it hj
  · exact (p.pairwise_iff fun h => Away.symm h).1 (apt_pair.1 H.two)
theorem Apt.insert {w0 w : World} {L : List Thing} {x : Thing} (H : Apt w0 w (L ++ [x])) (n : Nat) : Apt w0 w (L.take n ++ x :: L.drop n) := by
  refine H.perm ?_
  have e : L ++ [x] = L.take n ++ (L.drop n ++ [x]) := by rw [← List.append_assoc, List.take_append_drop]
  rw [e]
  exact (List.perm_append_comm (l₁ := L.drop n) (l₂ := [x])).append_left _
theorem Apt.erase {w0 w : World} {L : List Thing} (H : Apt w0 w L) (n : Nat) : Apt w0 w (L.eraseIdx n) := by
  have h : ∀ (i : Nat) (a : Thing), (L.eraseIdx n)[i]? = some a → L[if i < n then i else i + 1]? = some a := fun i a ha => by
    rw [List.getElem?_eraseIdx] at ha
    split at ha
    · rename_i h; rw [if_pos h]; exact ha
    · rename_i h; rw [if_neg h]; exact ha
  refine H.pick (fun i => if i < n then i else i + 1) h fun i j _ _ e => ?_
  split at e <;> split at e <;> omega
theorem Apt.weaken {w0 w : World} {L : List Thing} (H : Apt w0 w L) (i : Nat) {a b : Thing} (hi : L[i]? = some a) (hf : ∀ q, b.ft q → a.ft q) (hp : ∀ w', (∀ q, a.ft q → w'.heap[q]? = w.heap[q]?) → a.P w' → b.P w') (hk : ∀ w' w'', (∀ q, b.ft q → w''.heap[q]? = w'.heap[q]?) → b.P w' → b.P w'') : Apt w0 w (L.set i b) :=
  H.set hi (Gx.refl _ w) (fun q hq => .inl (hf q hq)) (fun q hq => (H.ok i a hi).hi q (hf q hq)) fun w'' h => hk w w'' h (hp w (fun _ _ => rfl) (H.get i hi))
abbrev ptrv (b : Nat) : Value := .pointer (some ⟨b, 0, none⟩)
mutual
def PartAt (F : Nat → Prop) (w : World) : PT → Nat → Prop
  | .mk non rule a e f t ks, b => F b ∧ ∃ X c, Box w b [.int .i64 non, .int .i64 rule, .int .i64 a, .int .i64 e, .int .i64 f, .int .i64 t, .slice X ks.length c] 103 ∧ (0 < ks.length → X = some (ad X) ∧ F (ad X).block) ∧ ks.length ≤ c ∧ KidsAt F w ks X 0
def KidsAt (F : Nat → Prop) (w : World) : List PT → Option Addr → Nat → Prop
  | [], _, _ => True
  | k :: ks, X, j => (∃ b, w.cell? ((ad X).add j) = some (ptrv b) ∧ PartAt F w k b) ∧ KidsAt F w ks X (j + 1)
end
mutual
theorem PartAt.gr {F : Nat → Prop} {w w' : World} (g : Gr w w') : (p : PT) → (b : Nat) → PartAt F w p b → PartAt F w' p b
  | .mk non rule a e f t ks, b, h => by
    simp only [PartAt] at h ⊢
    obtain ⟨hb, X, c, h1, h2, h3, h4⟩ := h
    exact ⟨hb, X, c, h1.gr g, h2, h3, KidsAt.gr g ks X 0 h4⟩
theorem KidsAt.gr {F : Nat → Prop} {w w' : World} (g : Gr w w') : (ks : List PT) → (X : Option Addr) → (j : Nat) → KidsAt F w ks X j → KidsAt F w' ks X j
  | [], X, j, _ => by simp only [KidsAt]
  | k :: ks, X, j, h => by
    simp only [KidsAt] at h ⊢
    obtain ⟨⟨b, h1, h2⟩, h3⟩ := h
    exact ⟨⟨b, g.cell h1, PartAt.gr g k b h2⟩, KidsAt.gr g ks X (j + 1) h3⟩
end
mutual
theorem PartAt.same {F : Nat → Prop} {w w' : World} (hs : ∀ q, F q → w'.heap[q]? = w.heap[q]?) : (p : PT) → (b : Nat) → PartAt F w p b → PartAt F w' p b
  | .mk non rule a e f t ks, b, h => by
    simp only [PartAt] at h ⊢
    obtain ⟨hb, X, c, h1, h2, h3, h4⟩ := h
    refine ⟨hb, X, c, (hs b hb).trans h1, h2, h3, ?_⟩
    cases ks with
    | nil => simp only [KidsAt]
    | cons k ks => exact KidsAt.same hs (k :: ks) X 0 (h2 (by simp)).2 h4
theorem KidsAt.same {F : Nat → Prop} {w w' : World} (hs : ∀ q, F q → w'.heap[q]? = w.heap[q]?) : (ks : List PT) → (X : Option Addr) → (j : Nat) → F (ad X).block → KidsAt F w ks X j → KidsAt F w' ks X j
  | [], X, j, _, _ => by simp only [KidsAt]
  | k :: ks, X, j, hX, h => by
    simp only [KidsAt] at h ⊢
    obtain ⟨⟨b, h1, h2⟩, h3⟩ := h
    refine ⟨⟨b, ?_, PartAt.same hs k b h2⟩, KidsAt.same hs ks X (j + 1) hX h3⟩
    rw [World.cell?_of_block (hs _ (by rw [zac_]; exact hX))]
    exact h1
end
mutual
theorem PartAt.mono {F E : Nat → Prop} {w : World} (he : ∀ q, F q → E q) : (p : PT) → (b : Nat) → PartAt F w p b → PartAt E w p b
  | .mk non rule a e f t ks, b, h => by
    simp only [PartAt] at h ⊢
    obtain ⟨hb, X, c, h1, h2, h3, h4⟩ := h
    exact ⟨he _ hb, X, c, h1, fun hp => ⟨(h2 hp).1, he _ (h2 hp).2⟩, h3, KidsAt.mono he ks X 0 h4⟩
theorem KidsAt.mono {F E : Nat → Prop} {w : World} (he : ∀ q, F q → E q) : (ks : List PT) → (X : Option Addr) → (j : Nat) → KidsAt F w ks X j → KidsAt E w ks X j
  | [], X, j, _ => by simp only [KidsAt]
  | k :: ks, X, j, h => by
    simp only [KidsAt] at h ⊢
    obtain ⟨⟨b, h1, h2⟩, h3⟩ := h
    exact ⟨⟨b, h1, PartAt.mono he k b h2⟩, KidsAt.mono he ks X (j + 1) h3⟩
end
theorem KidsAt.get {F : Nat → Prop} {w : World} {X : Option Addr} : ∀ {ks : List PT} {j i : Nat}, KidsAt F w ks X j → i < ks.length → ∃ b, w.cell? ((ad X).add (j + i)) = some (ptrv b) ∧ PartAt F w (ptn ks i) b := by
  intro ks
  induction ks with
  | nil => intro j i _ h; simp at h
  | cons k ks ih =>
    intro j i h hi
    simp only [KidsAt] at h
    cases i with
    | zero => exact h.1
    | succ i =>
      obtain ⟨b, h1, h2⟩ := ih h.2 (by simpa using hi)
      exact ⟨b, by rw [show j + (i + 1) = j + 1 + i from by omega]; exact h1, by simpa [ptn] using h2⟩
theorem PartAt.box {F : Nat → Prop} {w : World} {p : PT} {b : Nat} (h : PartAt F w p b) : ∃ X c, Box w b [.int .i64 p.non, .int .i64 p.rule, .int .i64 p.at_, .int .i64 p.fin, .int .i64 p.fr, .int .i64 p.to, .slice X p.kids.length c] 103 ∧ (0 < p.kids.length → X = some (ad X)) ∧ p.kids.length ≤ c ∧ KidsAt F w p.kids X 0 := by
  cases p with
  | mk non rule a e f t ks =>
    simp only [PartAt] at h
    obtain ⟨_, X, c, h1, h2, h3, h4⟩ := h
    exact ⟨X, c, h1, fun hp => (h2 hp).1, h3, h4⟩
def AllPt (F : Nat → Prop) (w : World) (ps : List PT) (bs : List Nat) : Prop := bs.length = ps.length ∧ ∀ i, i < ps.length → PartAt F w (ptn ps i) (bs.getD i 0)
theorem AllPt.gr {F : Nat → Prop} {w w' : World} {ps : List PT} {bs : List Nat} (h : AllPt F w ps bs) (g : Gr w w') : AllPt F w' ps bs := ⟨h.1, fun i hi => PartAt.gr g _ _ (h.2 i hi)⟩
theorem AllPt.append {F : Nat → Prop} {w : World} {ps qs : List PT} {bs cs : List Nat} (h : AllPt F w ps bs) (g : AllPt F w qs cs) : AllPt F w (ps ++ qs) (bs ++ cs) := by
  refine ⟨by simp [h.1, g.1], fun i hi => ?_⟩
  by_cases hl : i < ps.length
  · have := h.2 i hl
    have hb := h.1
    simpa [ptn, List.getD_eq_getElem?_getD, List.getElem?_append_left hl, List.getElem?_append_left (show i < bs.length by omega)] using this
  · rw [List.length_append] at hi
    have := g.2 (i - ps.length) (by omega)
    have hb := h.1
    rw [show ptn (ps ++ qs) i = ptn qs (i - ps.length) from by simp [ptn, List.getD_eq_getElem?_getD, List.getElem?_append_right (show ps.length ≤ i by omega)]]
    rw [show (bs ++ cs).getD i 0 = cs.getD (i - ps.length) 0 from by simp [List.getD_eq_getElem?_getD, List.getElem?_append_right (show bs.length ≤ i by omega), hb]]
    exact this
theorem AllPt.one {F : Nat → Prop} {w : World} {p : PT} {b : Nat} (h : PartAt F w p b) : AllPt F w [p] [b] := ⟨rfl, fun i hi => by
  obtain rfl : i = 0 := by simpa using hi
  exact h⟩

def sizesOK (P : Program) : List Field → List (Nat × Nat) → Prop
  | [], [] => True
  | f :: fs, p :: ps => (f.offset = p.1 ∧ szOf P f.type p.2) ∧ sizesOK P fs ps
  | _, _ => False
theorem run_places {P : Program} (w : World) : ∀ (fs : List Field) (ps : List (Nat × Nat)), sizesOK P fs ps → (fs.mapM (m := Sem) fun f => do pure (f.offset, ← sizeOf f.type)).run P w = .ok ps w := by
  intro fs
  induction fs with
  | nil =>
    intro ps h
    cases ps with
    | nil => rfl
    | cons p ps => exact h.elim
  | cons f fs ih =>
    intro ps h
    cases ps with
    | nil => exact h.elim
    | cons p ps =>
      obtain ⟨⟨h1, h2⟩, h3⟩ := h
      rw [List.mapM_cons]
      simp only [Sem.run_bind, zgc_ h2, Result.andThen, Sem.run_pure, ih ps h3, h1]
theorem zkm_ {P : Program} {S : WS} {k : Value → Prop} {t sz by' : Nat} {z : Value} {fs : Array Field} {ps : List (Nat × Nat)} {qs : List (Nat × Value)} {cells : Array Value} (ht : P.underlying t = some (.struct fs)) (H : Inf P t z sz by') (hs : sizesOK P fs.toList ps) (hf : Instr.fill (ps.toArray[·]?) z.cells qs = some cells) : Rd P S (zx_ t qs) k = k (.agg cells) := zrb_ fun w _ => by
  obtain ⟨i, hi, hz, _, _⟩ := H
  have e0 : (zeroValue t).run P w = .ok z w := by simp [zeroValue, zye_ hi, hz]
  have e1 : (fs.mapM (m := Sem) fun f => do pure (f.offset, ← sizeOf f.type)).run P w = .ok ps.toArray w := by
    rw [Array.mapM_eq_mapM_toList, Sem.run_map, run_places w fs.toList ps hs]
    rfl
  simp only [zx_, Instr.build, Sem.run_bind, e0, Result.andThen, run_underlying ht, e1, hf]
  rfl
end Go.Sh
namespace Go.Proofs.Yteabbgaffgpegaa
open Go Go.Sh
end Go.Proofs.Yteabbgaffgpegaa

namespace Go.Sh
open Go Go.ChangeShapes Go.WideShapes Go.ChangeAt Go.RowKit
theorem below_of_gr {w w' : World} (g : Gr w w') : Below w.heap.size w w' := ⟨g.os, g.tape, g.output, g.size, fun k hk => g.block k hk (by simp)⟩
theorem walk_of {P : Program} {g : FuncId} {args : List Value} {w : World} (h : ∀ k : Value → World → Prop, (∀ w', Gr w w' → k (.bool true) w') → CallK P g args k w) :
    Calls P g args.toArray w fun e w' => e = .returned (.bool true) ∧ Below w.heap.size w w' :=
  (h (fun v w' => v = .bool true ∧ Gr w w') (fun w' g => ⟨rfl, g⟩)).2.mono fun e w' he => by
    cases e with
    | returned v => exact ⟨by rw [he.1], below_of_gr he.2⟩
    | panicked c => exact he.elim
    | outgrown => exact he.elim

section
variable {H : Type} {enc : TypeId × Value → H} {P : Program} {w : World} {base : Nat} {spare : Nat → Bool} {held : Bool}
end
open Go Go.ChangeAt Go.ChangeShapes Go.WideShapes
section
variable {P : Program} {S : WS} {k : Value → Prop}
theorem bin_shr {t : TypeId} {c : Bool} {kd yk : IntKind} {x y : Int} (hy : 0 ≤ y) : Rd P S (sBin .shr t c (.int kd x) (.int yk y)) k = k (.int kd (x.fdiv (2 ^ (min y.toNat kd.bits)))) := zrb_ fun w _ => by
  simp only [sBin, Sem.run_bind, zem_, Result.andThen]
  have : ¬ y < 0 := by omega
  simp [binOp, Op.shift, this]
theorem bin_and {t : TypeId} {c : Bool} {kd : IntKind} {x y : Int} : Rd P S (sBin .and t c (.int kd x) (.int kd y)) k = k (.int kd (kd.wrap ((BitVec.ofInt kd.bits x &&& BitVec.ofInt kd.bits y).toNat : Int))) := zje_ fun w => by
  simp [binOp, Op.intBits]
theorem run_convert {s d : TypeId} {kd kn : IntKind} {n : Int} {ds : TypeDesc} (hs : P.underlying s = some ds) (hd : P.underlying d = some (.int kd)) (w : World) : (zxe_ s d (.int kn n)).run P w = .ok (.value (.int kd (kd.wrap n))) w := by
  simp only [zxe_, convert, Sem.run_bind, run_underlying hs, run_underlying hd, Result.andThen]
  cases ds <;> simp [Conv.intToInt]
theorem zth_ {k : Value → World → Prop} {s d : TypeId} {kd kn : IntKind} {n : Int} {ds : TypeDesc} {w : World} (hs : P.underlying s = some ds) (hd : P.underlying d = some (.int kd)) (h : k (.int kd (kd.wrap n)) w) : Do P (zxe_ s d (.int kn n)) k w := by
  rw [zwe_ (run_convert hs hd w)]
  exact h
end
theorem and255 (x : Int) : 0 ≤ IntKind.u64.wrap ((BitVec.ofInt IntKind.u64.bits x &&& BitVec.ofInt IntKind.u64.bits 255).toNat : Int) ∧ IntKind.u64.wrap ((BitVec.ofInt IntKind.u64.bits x &&& BitVec.ofInt IntKind.u64.bits 255).toNat : Int) ≤ 255 := by
  have h : (BitVec.ofInt IntKind.u64.bits x &&& BitVec.ofInt IntKind.u64.bits 255).toNat ≤ 255 := by
    rw [BitVec.toNat_and]
    exact Nat.le_trans Nat.and_le_right (by decide)
  have e : IntKind.u64.wrap ((BitVec.ofInt IntKind.u64.bits x &&& BitVec.ofInt IntKind.u64.bits 255).toNat : Int) = ((BitVec.ofInt IntKind.u64.bits x &&& BitVec.ofInt IntKind.u64.bits 255).toNat : Int) := by
    generalize (BitVec.ofInt IntKind.u64.bits x &&& BitVec.ofInt IntKind.u64.bits 255).toNat = n at *
    simp [IntKind.wrap, IntKind.bits, IntKind.signed]
    omega
  rw [e]
  omega
structure Byts (w : World) (X : Option Addr) (bs : List Int) : Prop where
  le : bs.length ≤ 9223372036854775807
  ptr : 0 < bs.length → X = some (ad X)
  cell : ∀ j, j < bs.length → w.cell? ((ad X).add j) = some (.int .u8 (bs.getD j 0))
  small : ∀ j, j < bs.length → 0 ≤ bs.getD j 0 ∧ bs.getD j 0 ≤ 255
theorem Byts.gr {w w' : World} {X : Option Addr} {bs : List Int} (h : Byts w X bs) (g : Gr w w') : Byts w' X bs := ⟨h.le, h.ptr, fun j hj => g.cell (h.cell j hj), h.small⟩
section
variable {H : Type} {enc : TypeId × Value → H} {P : Program} {w : World} {base : Nat} {spare : Nat → Bool} {held : Bool}
theorem wf8 {n : Int} (h : (Lit.int .u8 n).wf = true) : 0 ≤ n ∧ n ≤ 255 := by
  simp [Lit.wf, show IntKind.u8.min = 0 from rfl, show IntKind.u8.max = 255 from rfl] at h
  exact h
theorem read_bytes {t e : TypeId} (ht : P.underlying t = some (.slice e)) (he : P.underlying e = some (.int .u8)) (hc : P.cellsOf e = 1) {fuel : Nat} {cs : List Value} {x : DataW H × List MemPlace}
    (h : DataW.trod enc P w base spare held fuel t cs = some x) : ∃ X n c bs, cs = [.slice X n c] ∧ n = bs.length ∧ n ≤ c ∧ Byts w X bs := by
  rcases open_ints ht he hc h with ⟨hcs, _⟩ | ⟨a, l, c, zs, hcs, _, hl, hm, hz, _, hcell, hwz⟩
  · exact ⟨none, 0, 0, [], hcs, rfl, Nat.le_refl _, by simp, fun h => by simp at h, fun j hj => by simp at hj, fun j hj => by simp at hj⟩
  · have hzl : l ≤ zs.length := by rw [hz]; split <;> omega
    have hget : ∀ j, j < (zs.take l).length → j < zs.length ∧ (zs.take l).getD j 0 = zs.getD j 0 := fun j hj => by
      have hj' : j < l ∧ j < zs.length := by simp at hj; omega
      exact ⟨hj'.2, by simp [List.getD_eq_getElem?_getD, List.getElem?_take, hj'.1]⟩
    refine ⟨some a, l, c, zs.take l, hcs, by simp; omega, hl, ?_, fun _ => rfl, fun j hj => ?_, fun j hj => ?_⟩
    · unfold maxLen at hm
      simp
      omega
    · obtain ⟨h1, h2⟩ := hget j hj
      rw [show (ad (some a)).add j = a.add j from rfl, hcell j h1, h2]
    · obtain ⟨h1, h2⟩ := hget j hj
      rw [h2]
      refine wf8 (hwz _ ?_)
      rw [List.getD_eq_getElem?_getD, List.getElem?_eq_getElem h1]
      exact List.getElem_mem h1
theorem zgk_ {t e : TypeId} {v : Value} {d : DataW H} {p : List MemPlace} (ht : P.underlying t = some (.slice e)) (he : P.underlying e = some (.int .u8)) (hc : P.cellsOf e = 1)
    (h : DataW.Trod enc P w base spare held t v d p) : ∃ X n c bs, v.cells.toList = [.slice X n c] ∧ n = bs.length ∧ n ≤ c ∧ Byts w X bs := by
  obtain ⟨fuel, hf⟩ := h
  exact read_bytes ht he hc hf
end
def curi (tc bc : Nat) (cv : Value) (N : Nat) : Thing := ⟨fun w => ∃ a s : Int, 0 ≤ a ∧ a ≤ N ∧ Box w bc [cv, .int .i64 a, .int .u64 s] tc, fun q => q = bc⟩
section
variable {w0 w : World} {L : List Thing} {tc bc N : Nat} {cv : Value}
theorem Apt.openCur (H : Apt w0 w L) (i : Nat) (hi : L[i]? = some (curi tc bc cv N)) : ∃ a s : Int, 0 ≤ a ∧ a ≤ N ∧ Apt w0 w (L.set i (bx bc [cv, .int .i64 a, .int .u64 s] tc)) := by
  obtain ⟨a, s, h1, h2, h3⟩ := H.get i hi
  exact ⟨a, s, h1, h2, H.set hi (it' := bx bc [cv, .int .i64 a, .int .u64 s] tc) (Gx.refl _ w) (fun q hq => .inl hq) (fun q hq => (H.ok i _ hi).hi q hq) (zti_ h3)⟩
theorem Apt.shutCur (H : Apt w0 w L) (i : Nat) {a s : Int} (hi : L[i]? = some (bx bc [cv, .int .i64 a, .int .u64 s] tc)) (h1 : 0 ≤ a) (h2 : a ≤ N) : Apt w0 w (L.set i (curi tc bc cv N)) :=
  H.weaken i hi (fun q hq => hq) (fun w' _ hb => ⟨a, s, h1, h2, hb⟩) fun w' w'' hs ⟨a, s, h1, h2, h3⟩ => ⟨a, s, h1, h2, zti_ h3 w'' hs⟩
end
end Go.Sh

namespace Go.Proofs.Yteabbgaffgpegaa
open Go Go.Sh

def pl69 : Plans := fun _ => ⟨false, [], .nil⟩
def S69 (v0 v1 : Value) (k : Value → World → Prop) (w : World) : Prop :=
 Rd Try.prog (WS.at w) (ze_ .len #[27] 3 [false] [v1]) fun t1 =>
 CallK Try.prog 57 [v0, t1] (fun t2 w3 =>
 Rd Try.prog (WS.at w3) (zd_ 27 v1 t2) fun t4 =>
 Rd Try.prog (WS.at w3) (zc_ 3 t4) fun t5 =>
 k t5 w3) w
theorem body69 : Try.f69.body = some (zg_ Try.f69) := by kernel_rfl
theorem same69 (v0 v1 : Value) (k : Value → World → Prop) (w : World) : wpF Try.prog pl69 (zg_ Try.f69) (zt_ Try.prog Try.f69.results.toList k) (zp_ [v0, v1]) w = S69 v0 v1 k w := by kernel_rfl
theorem enter69 {v0 v1 : Value} {k : Value → World → Prop} {w : World} (h : S69 v0 v1 k w) : CallK Try.prog 69 [v0, v1] k w :=
  zi_ (pl := pl69) zbb_ Try.func69 body69 (by kernel_rfl) (of_decide_eq_true (by kernel_rfl)) (by kernel_rfl) (by kernel_rfl) (Eq.mpr (same69 v0 v1 k w) h)

def pl56 : Plans := fun i => match i with
  | 8 => ⟨true, [7, 9], .step 0 .any (.step 1 .held (.step 2 .any (.step 3 .held (.step 4 .any (.step 5 .held (.step 6 .one (.step 7 .last (.step 8 .any (.step 9 .last (.nil))))))))))⟩
  | 10 => ⟨true, [7], .step 0 .any (.step 1 .held (.step 2 .any (.step 3 .one (.step 4 .any (.step 5 .any (.step 6 .any (.step 7 .last (.nil))))))))⟩
  | _ => ⟨false, [], .nil⟩
def S56 (v0 : Value) (k : Value → World → Prop) (w : World) : Prop :=
 Do Try.prog (zib_ 26) (fun t1 w2 =>
 CallK Try.prog 116 [v0] (fun t3 w4 =>
 Do Try.prog (zib_ 26) (fun t5 w6 =>
 Do Try.prog (zu_ 26 t5 t3) (fun _ w7 =>
 Join (fun K8 =>
 CallK Try.prog 57 [v0, (.int .i64 40)] (fun t11 w12 =>
 Rd Try.prog (WS.at w12) (sBin .eql 3 true t11 (.int .i64 0)) fun t13 =>
 zk_ t13
  (Do Try.prog (zh_ 27 3 [(0, (.int .i64 0)), (1, (.int .i64 6)), (2, (.int .i64 7))]) (fun t14 w15 =>
  CallK Try.prog 69 [v0, t14] (fun t16 w17 =>
  Rd Try.prog (WS.at w17) (za_ 26 t5 0) fun t18 =>
  Do Try.prog (zu_ 3 t18 t16) (fun _ w19 =>
  K8 (F.upd (F.upd (F.upd (F.upd (F.upd (F.upd (F.upd (F.upd (F.upd (F.upd (F.upd (F.upd (zp_ [v0]) 2 t1) 4 v0) 5 t3) 3 t5) 6 v0) 7 t11) 9 t13) 8 t13) 10 v0) 11 t14) 12 t16) 13 t18) w19) w17) w15) w12)
  (Rd Try.prog (WS.at w12) (sBin .eql 3 true t11 (.int .i64 1)) fun t20 =>
  zk_ t20
   (Do Try.prog (zh_ 27 3 [(0, (.int .i64 0)), (1, (.int .i64 4)), (2, (.int .i64 5))]) (fun t21 w22 =>
   CallK Try.prog 69 [v0, t21] (fun t23 w24 =>
   Rd Try.prog (WS.at w24) (za_ 26 t5 1) fun t25 =>
   Do Try.prog (zu_ 3 t25 t23) (fun _ w26 =>
   K8 (F.upd (F.upd (F.upd (F.upd (F.upd (F.upd (F.upd (F.upd (F.upd (F.upd (F.upd (F.upd (F.upd (F.upd (zp_ [v0]) 2 t1) 4 v0) 5 t3) 3 t5) 6 v0) 7 t11) 9 t13) 8 t13) 15 t20) 14 t20) 16 v0) 17 t21) 18 t23) 19 t25) w26) w24) w22) w12)
   (Rd Try.prog (WS.at w12) (sBin .eql 3 true t11 (.int .i64 2)) fun t27 =>
   zk_ t27
    (∃ U28 : World → Prop, ∃ h29 : U28 w12.drew,
    Rd Try.prog WS.any (za_ 26 t5 2) fun t30 =>
    Rd Try.prog ⟨U28, w12.drew, h29⟩ (zc_ 24 t30) fun t31 =>
    Rd Try.prog WS.any (za_ 26 t5 2) fun t32 =>
    Rd Try.prog ⟨U28, w12.drew, h29⟩ (zc_ 24 t32) fun t33 =>
    Rd Try.prog WS.any (zd_ 24 t33 (.int .i64 0)) fun t34 =>
    Rd Try.prog ⟨U28, w12.drew, h29⟩ (zc_ 106 t34) fun t35 =>
    Do Try.prog (zh_ 24 1 [(0, t35)]) (fun t36 w37 =>
    U28 w37 ∧ Do Try.prog (ze_ .append #[24, 24] 24 [false, false] [t31, t36]) (fun t38 w39 =>
    Rd Try.prog WS.any (za_ 26 t5 2) fun t40 =>
    Do Try.prog (zu_ 24 t40 t38) (fun _ w41 =>
    K8 (F.upd (F.upd (F.upd (F.upd (F.upd (F.upd (F.upd (F.upd (F.upd (F.upd (F.upd (F.upd (F.upd (F.upd (F.upd (F.upd (F.upd (F.upd (F.upd (F.upd (F.upd (zp_ [v0]) 2 t1) 4 v0) 5 t3) 3 t5) 6 v0) 7 t11) 9 t13) 8 t13) 15 t20) 14 t20) 21 t27) 20 t27) 22 t30) 23 t31) 24 t32) 25 t33) 26 t34) 27 t35) 28 t36) 29 t38) 30 t40) w41) w39) w37) w12.drew)
    (Rd Try.prog (WS.at w12) (sBin .eql 3 true t11 (.int .i64 3)) fun t42 =>
    zk_ t42
     (∃ U43 : World → Prop, ∃ h44 : U43 w12.drew,
     Rd Try.prog WS.any (za_ 26 t5 2) fun t45 =>
     Rd Try.prog ⟨U43, w12.drew, h44⟩ (zc_ 24 t45) fun t46 =>
     CallK Try.prog 57 [v0, (.int .i64 8)] (fun t47 w48 =>
     U43 w48 ∧ Rd Try.prog WS.any (sBin .sub 3 true t47 (.int .i64 1)) fun t49 =>
     Rd Try.prog WS.any (zd_ 24 t46 (.int .i64 0)) fun t50 =>
     Rd Try.prog WS.any (za_ 106 t50 0) fun t51 =>
     Do Try.prog (zu_ 3 t51 t49) (fun _ w52 =>
     K8 (F.upd (F.upd (F.upd (F.upd (F.upd (F.upd (F.upd (F.upd (F.upd (F.upd (F.upd (F.upd (F.upd (F.upd (F.upd (F.upd (F.upd (F.upd (F.upd (F.upd (F.upd (zp_ [v0]) 2 t1) 4 v0) 5 t3) 3 t5) 6 v0) 7 t11) 9 t13) 8 t13) 15 t20) 14 t20) 21 t27) 20 t27) 32 t42) 31 t42) 33 t45) 34 t46) 35 v0) 36 t47) 37 t49) 38 t50) 39 t51) w52) w48) w12.drew)
     (K8 (F.upd (F.upd (F.upd (F.upd (F.upd (F.upd (F.upd (F.upd (F.upd (F.upd (F.upd (F.upd (F.upd (F.upd (zp_ [v0]) 2 t1) 4 v0) 5 t3) 3 t5) 6 v0) 7 t11) 9 t13) 8 t13) 15 t20) 14 t20) 21 t27) 20 t27) 32 t42) 31 t42) w12))))) w7) (fun f9 w10 =>
 Rd Try.prog (WS.at w10) (zc_ 26 (f9 3)) fun t53 =>
 Do Try.prog (zu_ 26 (f9 2) t53) (fun _ w54 =>
 Rd Try.prog (WS.at w54) (zjb_ 26 (f9 2)) fun t55 => k t55 w54) w10)) w6) w4) w2) w
theorem body56 : Try.f56.body = some (zg_ Try.f56) := by kernel_rfl
theorem same56 (v0 : Value) (k : Value → World → Prop) (w : World) : wpF Try.prog pl56 (zg_ Try.f56) (zt_ Try.prog Try.f56.results.toList k) (zp_ [v0]) w = S56 v0 k w := by kernel_rfl
theorem enter56 {v0 : Value} {k : Value → World → Prop} {w : World} (h : S56 v0 k w) : CallK Try.prog 56 [v0] k w :=
  zi_ (pl := pl56) zbb_ Try.func56 body56 (by kernel_rfl) (of_decide_eq_true (by kernel_rfl)) (by kernel_rfl) (by kernel_rfl) (Eq.mpr (same56 v0 k w) h)

def pl116 : Plans := fun _ => ⟨false, [], .nil⟩
def S116 (v0 : Value) (k : Value → World → Prop) (w : World) : Prop :=
 Do Try.prog (zib_ 26) (fun t1 w2 =>
 CallK Try.prog 60 [v0, (.int .i64 2)] (fun t3 w4 =>
 zk_ t3
  (CallK Try.prog 149 [v0] (fun t5 w6 =>
  Do Try.prog (zu_ 26 t1 t5) (fun _ w7 =>
  Rd Try.prog (WS.at w7) (zjb_ 26 t1) fun t8 => k t8 w7) w6) w4)
  (CallK Try.prog 57 [v0, (.int .i64 3)] (fun t9 w10 =>
  Rd Try.prog (WS.at w10) (sBin .add 3 true (.int .i64 1) t9) fun t11 =>
  CallK Try.prog 57 [v0, (.int .i64 2)] (fun t12 w13 =>
  Rd Try.prog (WS.at w13) (sBin .add 3 true (.int .i64 1) t12) fun t14 =>
  Rd Try.prog (WS.at w13) (zx_ 26 [(0, t11), (1, t14)]) fun t15 =>
  Do Try.prog (zib_ 26) (fun t16 w17 =>
  Do Try.prog (zu_ 26 t16 t15) (fun _ w18 =>
  CallK Try.prog 57 [v0, (.int .i64 6)] (fun t19 w20 =>
  Rd Try.prog (WS.at w20) (sBin .add 3 true (.int .i64 1) t19) fun t21 =>
  zfb_ [22, 23, 26, 27, 28, 29, 30, 5, 31, 32, 6, 33, 34, 37, 38, 39, 40, 7, 41, 42, 43, 44, 45, 46, 47, 7, 48, 49, 50, 51, 52, 53, 35, 36, 6, 54, 55, 56, 57, 58, 24, 25, 4] (fun Q22 f23 w24 =>
   Rd Try.prog (WS.at w24) (sBin .gtr 3 true (f23 4) (.int .i64 0)) fun t25 =>
   zk_ t25
    (Rd Try.prog (WS.at w24) (za_ 26 (f23 3) 0) fun t26 =>
    Rd Try.prog (WS.at w24) (zc_ 3 t26) fun t27 =>
    CallK Try.prog 57 [(f23 0), t27] (fun t28 w29 =>
    Rd Try.prog (WS.at w29) (zx_ 106 [(0, t28)]) fun t30 =>
    Do Try.prog (zib_ 106) (fun t31 w32 =>
    Do Try.prog (zu_ 106 t31 t30) (fun _ w33 =>
    CallK Try.prog 57 [(f23 0), (.int .i64 4)] (fun t34 w35 =>
    zfb_ [33, 34, 37, 38, 39, 40, 7, 41, 42, 43, 44, 45, 46, 47, 7, 48, 49, 50, 51, 52, 53, 35, 36, 6] (fun Q36 f37 w38 =>
     Rd Try.prog (WS.at w38) (sBin .gtr 3 true (f37 6) (.int .i64 0)) fun t39 =>
     zk_ t39
      (Join (fun K40 =>
      Rd Try.prog (WS.at w38) (za_ 26 (f37 3) 0) fun t43 =>
      Rd Try.prog (WS.at w38) (zc_ 3 t43) fun t44 =>
      CallK Try.prog 57 [(f37 0), t44] (fun t45 w46 =>
      Join (fun K47 =>
      CallK Try.prog 60 [(f37 0), (.int .i64 2)] (fun t50 w51 =>
      zk_ t50
       (Rd Try.prog (WS.at w51) (za_ 26 (f37 3) 1) fun t52 =>
       Rd Try.prog (WS.at w51) (zc_ 3 t52) fun t53 =>
       CallK Try.prog 57 [(f37 0), t53] (fun t54 w55 =>
       Rd Try.prog (WS.at w55) (sBin .sub 3 true (.int .i64 (-1)) t54) fun t56 =>
       K47 (F.upd (F.upd (F.upd (F.upd (F.upd (F.upd (F.upd (F.upd (F.upd (F.upd (F.upd (F.upd (F.upd (F.upd (F.upd f37 33 (f37 6)) 34 t39) 37 (f37 0)) 38 t43) 39 t44) 40 t45) 7 t45) 41 (f37 0)) 42 t50) 43 (f37 0)) 44 t52) 45 t53) 46 t54) 47 t56) 7 t56) w55) w51)
       (K47 (F.upd (F.upd (F.upd (F.upd (F.upd (F.upd (F.upd (F.upd (F.upd f37 33 (f37 6)) 34 t39) 37 (f37 0)) 38 t43) 39 t44) 40 t45) 7 t45) 41 (f37 0)) 42 t50) w51)) w46) (fun f48 w49 =>
      Rd Try.prog (WS.at w49) (za_ 106 (f48 5) 1) fun t57 =>
      Rd Try.prog (WS.at w49) (zc_ 27 t57) fun t58 =>
      Do Try.prog (zh_ 27 1 [(0, (f48 7))]) (fun t59 w60 =>
      Do Try.prog (ze_ .append #[27, 27] 27 [false, false] [t58, t59]) (fun t61 w62 =>
      Rd Try.prog (WS.at w62) (za_ 106 (f48 5) 1) fun t63 =>
      Do Try.prog (zu_ 27 t63 t61) (fun _ w64 =>
      K40 (F.upd (F.upd (F.upd (F.upd (F.upd (F.upd f48 48 t57) 49 t58) 50 (f48 7)) 51 t59) 52 t61) 53 t63) w64) w62) w60) w49)) w38) (fun f41 w42 =>
      Rd Try.prog (WS.at w42) (sBin .sub 3 true (f41 6) (.int .i64 1)) fun t65 =>
      Q36 .normal (F.upd (F.upd (F.upd f41 35 (f41 6)) 36 t65) 6 t65) w42))
      (Q36 (.exit 2) (F.upd (F.upd f37 33 (f37 6)) 34 t39) w38))
     (zr_ 2 (seqQ (fun f66 w67 =>
    Rd Try.prog (WS.at w67) (za_ 26 (f66 3) 2) fun t68 =>
    Rd Try.prog (WS.at w67) (zc_ 24 t68) fun t69 =>
    Rd Try.prog (WS.at w67) (zc_ 106 (f66 5)) fun t70 =>
    CallK Try.prog 150 [t69, t70] (fun t71 w72 =>
    Rd Try.prog (WS.at w72) (za_ 26 (f66 3) 2) fun t73 =>
    Do Try.prog (zu_ 24 t73 t71) (fun _ w74 =>
    Rd Try.prog (WS.at w74) (sBin .sub 3 true (f66 4) (.int .i64 1)) fun t75 =>
    Q22 .normal (F.upd (F.upd (F.upd (F.upd (F.upd (F.upd (F.upd (F.upd f66 54 t68) 55 t69) 56 t70) 57 t71) 58 t73) 24 (f66 4)) 25 t75) 4 t75) w74) w72) w67) (zr_ 1 (seqQ (fun f76 w77 =>
    Rd Try.prog (WS.at w77) (sBin .sub 3 true (f76 4) (.int .i64 1)) fun t78 =>
    Q22 .normal (F.upd (F.upd (F.upd f76 24 (f76 4)) 25 t78) 4 t78) w77) Q22))))
     (F.upd (F.upd (F.upd (F.upd (F.upd (F.upd (F.upd (F.upd (F.upd (F.upd (F.upd f23 22 (f23 4)) 23 t25) 26 (f23 0)) 27 t26) 28 t27) 29 t28) 30 t30) 5 t31) 31 (f23 0)) 32 t34) 6 t34) w35) w33) w32) w29) w24)
    (Q22 (.exit 0) (F.upd (F.upd f23 22 (f23 4)) 23 t25) w24))
   (zr_ 0 (seqQ (fun f79 w80 =>
  Rd Try.prog (WS.at w80) (zc_ 26 (f79 3)) fun t81 =>
  Do Try.prog (zu_ 26 (f79 2) t81) (fun _ w82 =>
  Rd Try.prog (WS.at w82) (zjb_ 26 (f79 2)) fun t83 => k t83 w82) w80) (zt_ Try.prog [.cell 2 26] k)))
   (F.upd (F.upd (F.upd (F.upd (F.upd (F.upd (F.upd (F.upd (F.upd (F.upd (F.upd (F.upd (F.upd (F.upd (F.upd (zp_ [v0]) 2 t1) 8 v0) 9 t3) 12 v0) 13 t9) 14 t11) 15 v0) 16 t12) 17 t14) 18 t15) 3 t16) 19 v0) 20 t19) 21 t21) 4 t21) w20) w18) w17) w13) w10) w4)) w2) w
theorem body116 : Try.f116.body = some (zg_ Try.f116) := by kernel_rfl
theorem same116 (v0 : Value) (k : Value → World → Prop) (w : World) : wpF Try.prog pl116 (zg_ Try.f116) (zt_ Try.prog Try.f116.results.toList k) (zp_ [v0]) w = S116 v0 k w := by kernel_rfl
theorem enter116 {v0 : Value} {k : Value → World → Prop} {w : World} (h : S116 v0 k w) : CallK Try.prog 116 [v0] k w :=
  zi_ (pl := pl116) zbb_ Try.func116 body116 (by kernel_rfl) (of_decide_eq_true (by kernel_rfl)) (by kernel_rfl) (by kernel_rfl) (Eq.mpr (same116 v0 k w) h)

def pl149 : Plans := fun _ => ⟨false, [], .nil⟩
def S149 (v0 : Value) (k : Value → World → Prop) (w : World) : Prop :=
 Do Try.prog (zib_ 26) (fun t1 w2 =>
 CallK Try.prog 57 [v0, (.int .i64 8)] (fun t3 w4 =>
 Rd Try.prog (WS.at w4) (sBin .eql 3 true t3 (.int .i64 0)) fun t5 =>
 zk_ t5
  (Do Try.prog (zh_ 27 3 [(0, (.int .i64 (-1))), (1, (.int .i64 0)), (2, (.int .i64 (-2)))]) (fun t6 w7 =>
  Rd Try.prog (WS.at w7) (zx_ 106 [(1, t6)]) fun t8 =>
  Rd Try.prog (WS.at w7) (zx_ 106 []) fun t9 =>
  Do Try.prog (zh_ 24 2 [(0, t8), (1, t9)]) (fun t10 w11 =>
  Rd Try.prog (WS.at w11) (zx_ 26 [(0, (.int .i64 1)), (1, (.int .i64 2)), (2, t10)]) fun t12 =>
  Do Try.prog (zu_ 26 t1 t12) (fun _ w13 =>
  Rd Try.prog (WS.at w13) (zjb_ 26 t1) fun t14 => k t14 w13) w11) w7) w4)
  (Rd Try.prog (WS.at w4) (sBin .eql 3 true t3 (.int .i64 1)) fun t15 =>
  zk_ t15
   (Do Try.prog (zh_ 27 2 [(0, (.int .i64 0)), (1, (.int .i64 0))]) (fun t16 w17 =>
   Rd Try.prog (WS.at w17) (zx_ 106 [(1, t16)]) fun t18 =>
   Do Try.prog (zh_ 27 3 [(0, (.int .i64 (-1))), (1, (.int .i64 0)), (2, (.int .i64 (-2)))]) (fun t19 w20 =>
   Rd Try.prog (WS.at w20) (zx_ 106 [(1, t19)]) fun t21 =>
   Do Try.prog (zh_ 27 2 [(0, (.int .i64 (-1))), (1, (.int .i64 (-2)))]) (fun t22 w23 =>
   Rd Try.prog (WS.at w23) (zx_ 106 [(1, t22)]) fun t24 =>
   Do Try.prog (zh_ 24 3 [(0, t18), (1, t21), (2, t24)]) (fun t25 w26 =>
   Rd Try.prog (WS.at w26) (zx_ 26 [(0, (.int .i64 1)), (1, (.int .i64 2)), (2, t25)]) fun t27 =>
   Do Try.prog (zu_ 26 t1 t27) (fun _ w28 =>
   Rd Try.prog (WS.at w28) (zjb_ 26 t1) fun t29 => k t29 w28) w26) w23) w20) w17) w4)
   (Rd Try.prog (WS.at w4) (sBin .eql 3 true t3 (.int .i64 2)) fun t30 =>
   zk_ t30
    (Do Try.prog (zh_ 27 3 [(0, (.int .i64 0)), (1, (.int .i64 (-3))), (2, (.int .i64 1))]) (fun t31 w32 =>
    Rd Try.prog (WS.at w32) (zx_ 106 [(1, t31)]) fun t33 =>
    Do Try.prog (zh_ 27 1 [(0, (.int .i64 1))]) (fun t34 w35 =>
    Rd Try.prog (WS.at w35) (zx_ 106 [(1, t34)]) fun t36 =>
    Do Try.prog (zh_ 27 1 [(0, (.int .i64 (-1)))]) (fun t37 w38 =>
    Rd Try.prog (WS.at w38) (zx_ 106 [(0, (.int .i64 1)), (1, t37)]) fun t39 =>
    Do Try.prog (zh_ 27 3 [(0, (.int .i64 (-2))), (1, (.int .i64 0)), (2, (.int .i64 (-2)))]) (fun t40 w41 =>
    Rd Try.prog (WS.at w41) (zx_ 106 [(0, (.int .i64 1)), (1, t40)]) fun t42 =>
    Do Try.prog (zh_ 24 4 [(0, t33), (1, t36), (2, t39), (3, t42)]) (fun t43 w44 =>
    Rd Try.prog (WS.at w44) (zx_ 26 [(0, (.int .i64 2)), (1, (.int .i64 3)), (2, t43)]) fun t45 =>
    Do Try.prog (zu_ 26 t1 t45) (fun _ w46 =>
    Rd Try.prog (WS.at w46) (zjb_ 26 t1) fun t47 => k t47 w46) w44) w41) w38) w35) w32) w4)
    (Rd Try.prog (WS.at w4) (sBin .eql 3 true t3 (.int .i64 3)) fun t48 =>
    zk_ t48
     (Do Try.prog (zh_ 27 2 [(0, (.int .i64 (-1))), (1, (.int .i64 1))]) (fun t49 w50 =>
     Rd Try.prog (WS.at w50) (zx_ 106 [(1, t49)]) fun t51 =>
     Do Try.prog (zh_ 27 2 [(0, (.int .i64 (-2))), (1, (.int .i64 1))]) (fun t52 w53 =>
     Rd Try.prog (WS.at w53) (zx_ 106 [(0, (.int .i64 1)), (1, t52)]) fun t54 =>
     Do Try.prog (zh_ 27 1 [(0, (.int .i64 (-2)))]) (fun t55 w56 =>
     Rd Try.prog (WS.at w56) (zx_ 106 [(0, (.int .i64 1)), (1, t55)]) fun t57 =>
     Rd Try.prog (WS.at w56) (zx_ 106 [(0, (.int .i64 1))]) fun t58 =>
     Do Try.prog (zh_ 24 4 [(0, t51), (1, t54), (2, t57), (3, t58)]) (fun t59 w60 =>
     Rd Try.prog (WS.at w60) (zx_ 26 [(0, (.int .i64 2)), (1, (.int .i64 2)), (2, t59)]) fun t61 =>
     Do Try.prog (zu_ 26 t1 t61) (fun _ w62 =>
     Rd Try.prog (WS.at w62) (zjb_ 26 t1) fun t63 => k t63 w62) w60) w56) w53) w50) w4)
     (Rd Try.prog (WS.at w4) (sBin .eql 3 true t3 (.int .i64 4)) fun t64 =>
     zk_ t64
      (Do Try.prog (zh_ 27 1 [(0, (.int .i64 0))]) (fun t65 w66 =>
      Rd Try.prog (WS.at w66) (zx_ 106 [(1, t65)]) fun t67 =>
      Do Try.prog (zh_ 27 1 [(0, (.int .i64 1))]) (fun t68 w69 =>
      Rd Try.prog (WS.at w69) (zx_ 106 [(1, t68)]) fun t70 =>
      Do Try.prog (zh_ 27 2 [(0, (.int .i64 0)), (1, (.int .i64 1))]) (fun t71 w72 =>
      Rd Try.prog (WS.at w72) (zx_ 106 [(0, (.int .i64 1)), (1, t71)]) fun t73 =>
      Do Try.prog (zh_ 27 1 [(0, (.int .i64 (-1)))]) (fun t74 w75 =>
      Rd Try.prog (WS.at w75) (zx_ 106 [(0, (.int .i64 1)), (1, t74)]) fun t76 =>
      Rd Try.prog (WS.at w75) (zx_ 106 [(0, (.int .i64 1))]) fun t77 =>
      Do Try.prog (zh_ 24 5 [(0, t67), (1, t70), (2, t73), (3, t76), (4, t77)]) (fun t78 w79 =>
      Rd Try.prog (WS.at w79) (zx_ 26 [(0, (.int .i64 2)), (1, (.int .i64 1)), (2, t78)]) fun t80 =>
      Do Try.prog (zu_ 26 t1 t80) (fun _ w81 =>
      Rd Try.prog (WS.at w81) (zjb_ 26 t1) fun t82 => k t82 w81) w79) w75) w72) w69) w66) w4)
      (Rd Try.prog (WS.at w4) (sBin .eql 3 true t3 (.int .i64 5)) fun t83 =>
      zk_ t83
       (Do Try.prog (zh_ 27 3 [(0, (.int .i64 (-1))), (1, (.int .i64 0)), (2, (.int .i64 (-1)))]) (fun t84 w85 =>
       Rd Try.prog (WS.at w85) (zx_ 106 [(1, t84)]) fun t86 =>
       Do Try.prog (zh_ 27 3 [(0, (.int .i64 (-2))), (1, (.int .i64 0)), (2, (.int .i64 (-2)))]) (fun t87 w88 =>
       Rd Try.prog (WS.at w88) (zx_ 106 [(1, t87)]) fun t89 =>
       Do Try.prog (zh_ 27 1 [(0, (.int .i64 (-1)))]) (fun t90 w91 =>
       Rd Try.prog (WS.at w91) (zx_ 106 [(1, t90)]) fun t92 =>
       Do Try.prog (zh_ 27 1 [(0, (.int .i64 (-2)))]) (fun t93 w94 =>
       Rd Try.prog (WS.at w94) (zx_ 106 [(1, t93)]) fun t95 =>
       Rd Try.prog (WS.at w94) (zx_ 106 []) fun t96 =>
       Do Try.prog (zh_ 24 5 [(0, t86), (1, t89), (2, t92), (3, t95), (4, t96)]) (fun t97 w98 =>
       Rd Try.prog (WS.at w98) (zx_ 26 [(0, (.int .i64 1)), (1, (.int .i64 2)), (2, t97)]) fun t99 =>
       Do Try.prog (zu_ 26 t1 t99) (fun _ w100 =>
       Rd Try.prog (WS.at w100) (zjb_ 26 t1) fun t101 => k t101 w100) w98) w94) w91) w88) w85) w4)
       (Rd Try.prog (WS.at w4) (sBin .eql 3 true t3 (.int .i64 6)) fun t102 =>
       zk_ t102
        (Do Try.prog (zh_ 27 2 [(0, (.int .i64 1)), (1, (.int .i64 2))]) (fun t103 w104 =>
        Rd Try.prog (WS.at w104) (zx_ 106 [(1, t103)]) fun t105 =>
        Do Try.prog (zh_ 27 2 [(0, (.int .i64 (-1))), (1, (.int .i64 1))]) (fun t106 w107 =>
        Rd Try.prog (WS.at w107) (zx_ 106 [(0, (.int .i64 1)), (1, t106)]) fun t108 =>
        Rd Try.prog (WS.at w107) (zx_ 106 [(0, (.int .i64 1))]) fun t109 =>
        Do Try.prog (zh_ 27 2 [(0, (.int .i64 (-2))), (1, (.int .i64 2))]) (fun t110 w111 =>
        Rd Try.prog (WS.at w111) (zx_ 106 [(0, (.int .i64 2)), (1, t110)]) fun t112 =>
        Rd Try.prog (WS.at w111) (zx_ 106 [(0, (.int .i64 2))]) fun t113 =>
        Do Try.prog (zh_ 24 5 [(0, t105), (1, t108), (2, t109), (3, t112), (4, t113)]) (fun t114 w115 =>
        Rd Try.prog (WS.at w115) (zx_ 26 [(0, (.int .i64 3)), (1, (.int .i64 2)), (2, t114)]) fun t116 =>
        Do Try.prog (zu_ 26 t1 t116) (fun _ w117 =>
        Rd Try.prog (WS.at w117) (zjb_ 26 t1) fun t118 => k t118 w117) w115) w111) w107) w104) w4)
        (Do Try.prog (zh_ 27 2 [(0, (.int .i64 0)), (1, (.int .i64 0))]) (fun t119 w120 =>
        Rd Try.prog (WS.at w120) (zx_ 106 [(1, t119)]) fun t121 =>
        Do Try.prog (zh_ 27 1 [(0, (.int .i64 (-1)))]) (fun t122 w123 =>
        Rd Try.prog (WS.at w123) (zx_ 106 [(1, t122)]) fun t124 =>
        Do Try.prog (zh_ 27 2 [(0, (.int .i64 (-2))), (1, (.int .i64 1))]) (fun t125 w126 =>
        Rd Try.prog (WS.at w126) (zx_ 106 [(0, (.int .i64 1)), (1, t125)]) fun t127 =>
        Do Try.prog (zh_ 24 3 [(0, t121), (1, t124), (2, t127)]) (fun t128 w129 =>
        Rd Try.prog (WS.at w129) (zx_ 26 [(0, (.int .i64 2)), (1, (.int .i64 2)), (2, t128)]) fun t130 =>
        Do Try.prog (zu_ 26 t1 t130) (fun _ w131 =>
        Rd Try.prog (WS.at w131) (zjb_ 26 t1) fun t132 => k t132 w131) w129) w126) w123) w120) w4)))))))) w2) w
theorem body149 : Try.f149.body = some (zg_ Try.f149) := by kernel_rfl
theorem same149 (v0 : Value) (k : Value → World → Prop) (w : World) : wpF Try.prog pl149 (zg_ Try.f149) (zt_ Try.prog Try.f149.results.toList k) (zp_ [v0]) w = S149 v0 k w := by kernel_rfl
theorem enter149 {v0 : Value} {k : Value → World → Prop} {w : World} (h : S149 v0 k w) : CallK Try.prog 149 [v0] k w :=
  zi_ (pl := pl149) zbb_ Try.func149 body149 (by kernel_rfl) (of_decide_eq_true (by kernel_rfl)) (by kernel_rfl) (by kernel_rfl) (Eq.mpr (same149 v0 k w) h)

def pl117 : Plans := fun i => match i with
  | 2 => ⟨false, [], .step 0 .any (.step 1 .any (.step 2 .any (.step 3 .held (.step 4 .any (.step 5 .any (.step 6 .any (.step 7 .held (.step 8 .any (.step 9 .any (.nil))))))))))⟩
  | 3 => ⟨false, [10], .step 0 .any (.step 1 .any (.step 2 .any (.step 3 .held (.step 4 .any (.step 5 .any (.step 6 .any (.step 7 .held (.step 8 .any (.step 9 .held (.step 10 .last (.step 11 .any (.nil))))))))))))⟩
  | 6 => ⟨false, [], .step 0 .any (.step 1 .any (.step 2 .any (.step 3 .held (.step 4 .any (.step 5 .any (.step 6 .any (.step 7 .held (.step 8 .any (.step 9 .any (.nil))))))))))⟩
  | _ => ⟨false, [], .nil⟩
def S117 (v0 : Value) (k : Value → World → Prop) (w : World) : Prop :=
 Join (fun K1 =>
 Rd Try.prog WS.any (zgb_ v0) fun t4 =>
 Rd Try.prog WS.any (za_ 86 t4 1) fun t5 =>
 Rd Try.prog (WS.at w.drew) (zc_ 3 t5) fun t6 =>
 Rd Try.prog WS.any (zgb_ v0) fun t7 =>
 Rd Try.prog WS.any (za_ 86 t7 0) fun t8 =>
 Rd Try.prog (WS.at w.drew) (zc_ 22 t8) fun t9 =>
 Rd Try.prog WS.any (ze_ .len #[22] 3 [false] [t9]) fun t10 =>
 Rd Try.prog WS.any (sBin .lss 3 false t6 t10) fun t11 =>
 zk_ t11
  (Rd Try.prog WS.any (zgb_ v0) fun t12 =>
  Rd Try.prog WS.any (za_ 86 t12 0) fun t13 =>
  Rd Try.prog (WS.at w.drew.drew) (zc_ 22 t13) fun t14 =>
  Rd Try.prog WS.any (zgb_ v0) fun t15 =>
  Rd Try.prog WS.any (za_ 86 t15 1) fun t16 =>
  Rd Try.prog (WS.at w.drew.drew) (zc_ 3 t16) fun t17 =>
  Rd Try.prog WS.any (zd_ 22 t14 t17) fun t18 =>
  Rd Try.prog (WS.at w.drew.drew) (zc_ 5 t18) fun t19 =>
  Do Try.prog (zxe_ 5 3 t19) (fun t20 w21 =>
  K1 (F.upd (F.upd (F.upd (F.upd (F.upd (F.upd (F.upd (F.upd (F.upd (F.upd (F.upd (F.upd (F.upd (F.upd (F.upd (F.upd (F.upd (F.upd (F.upd (F.upd (F.upd (F.upd (F.upd (F.upd (zp_ [v0]) 2 (.int .i64 0)) 3 (.int .i64 0)) 4 v0) 5 t4) 6 t5) 7 t6) 8 v0) 9 t7) 10 t8) 11 t9) 12 t10) 13 t11) 14 v0) 15 t12) 16 t13) 17 t14) 18 v0) 19 t15) 20 t16) 21 t17) 22 t18) 23 t19) 24 t20) 3 t20) w21) w.drew.drew)
  (K1 (F.upd (F.upd (F.upd (F.upd (F.upd (F.upd (F.upd (F.upd (F.upd (F.upd (F.upd (F.upd (zp_ [v0]) 2 (.int .i64 0)) 3 (.int .i64 0)) 4 v0) 5 t4) 6 t5) 7 t6) 8 v0) 9 t7) 10 t8) 11 t9) 12 t10) 13 t11) w.drew)) (fun f2 w3 =>
 Rd Try.prog (WS.at w3) (zgb_ (f2 0)) fun t22 =>
 Rd Try.prog (WS.at w3) (za_ 86 t22 1) fun t23 =>
 Rd Try.prog (WS.at w3) (zc_ 3 t23) fun t24 =>
 Rd Try.prog (WS.at w3) (sBin .add 3 true t24 (.int .i64 1)) fun t25 =>
 Rd Try.prog (WS.at w3) (zgb_ (f2 0)) fun t26 =>
 Rd Try.prog (WS.at w3) (za_ 86 t26 1) fun t27 =>
 Do Try.prog (zu_ 3 t27 t25) (fun _ w28 =>
 Rd Try.prog (WS.at w28) (zgb_ (f2 0)) fun t29 =>
 Rd Try.prog (WS.at w28) (za_ 86 t29 2) fun t30 =>
 Rd Try.prog (WS.at w28) (zc_ 84 t30) fun t31 =>
 Rd Try.prog (WS.at w28) (sBin .mul 84 true t31 (.int .u64 6364136223846793005)) fun t32 =>
 Do Try.prog (zxe_ 3 84 (f2 3)) (fun t33 w34 =>
 Rd Try.prog (WS.at w34) (sBin .add 84 false t32 t33) fun t35 =>
 Rd Try.prog (WS.at w34) (sBin .add 84 true t35 (.int .u64 1442695040888963407)) fun t36 =>
 Rd Try.prog (WS.at w34) (zgb_ (f2 0)) fun t37 =>
 Rd Try.prog (WS.at w34) (za_ 86 t37 2) fun t38 =>
 Do Try.prog (zu_ 84 t38 t36) (fun _ w39 =>
 Rd Try.prog WS.any (zgb_ (f2 0)) fun t40 =>
 Rd Try.prog WS.any (za_ 86 t40 1) fun t41 =>
 Rd Try.prog (WS.at w39.drew) (zc_ 3 t41) fun t42 =>
 Rd Try.prog WS.any (zgb_ (f2 0)) fun t43 =>
 Rd Try.prog WS.any (za_ 86 t43 0) fun t44 =>
 Rd Try.prog (WS.at w39.drew) (zc_ 22 t44) fun t45 =>
 Rd Try.prog WS.any (ze_ .len #[22] 3 [false] [t45]) fun t46 =>
 Rd Try.prog WS.any (sBin .leq 3 false t42 t46) fun t47 =>
 zk_ t47
  (k (f2 3) w39.drew)
  (Rd Try.prog (WS.at w39.drew) (zgb_ (f2 0)) fun t48 =>
  Rd Try.prog (WS.at w39.drew) (za_ 86 t48 2) fun t49 =>
  Rd Try.prog (WS.at w39.drew) (zc_ 84 t49) fun t50 =>
  Rd Try.prog (WS.at w39.drew) (sBin .shr 84 true t50 (.int .u64 40)) fun t51 =>
  Rd Try.prog (WS.at w39.drew) (sBin .and 84 true t51 (.int .u64 255)) fun t52 =>
  Do Try.prog (zxe_ 84 3 t52) (fun t53 w54 =>
  k t53 w54) w39.drew)) w34) w28) w3)
theorem body117 : Try.f117.body = some (zg_ Try.f117) := by kernel_rfl
theorem same117 (v0 : Value) (k : Value → World → Prop) (w : World) : wpF Try.prog pl117 (zg_ Try.f117) (zt_ Try.prog Try.f117.results.toList k) (zp_ [v0]) w = S117 v0 k w := by kernel_rfl
theorem enter117 {v0 : Value} {k : Value → World → Prop} {w : World} (h : S117 v0 k w) : CallK Try.prog 117 [v0] k w :=
  zi_ (pl := pl117) zbb_ Try.func117 body117 (by kernel_rfl) (of_decide_eq_true (by kernel_rfl)) (by kernel_rfl) (by kernel_rfl) (Eq.mpr (same117 v0 k w) h)

def pl60 : Plans := fun _ => ⟨false, [], .nil⟩
def S60 (v0 v1 : Value) (k : Value → World → Prop) (w : World) : Prop :=
 CallK Try.prog 57 [v0, v1] (fun t1 w2 =>
 Rd Try.prog (WS.at w2) (sBin .eql 3 true t1 (.int .i64 0)) fun t3 =>
 k t3 w2) w
theorem body60 : Try.f60.body = some (zg_ Try.f60) := by kernel_rfl
theorem same60 (v0 v1 : Value) (k : Value → World → Prop) (w : World) : wpF Try.prog pl60 (zg_ Try.f60) (zt_ Try.prog Try.f60.results.toList k) (zp_ [v0, v1]) w = S60 v0 v1 k w := by kernel_rfl
theorem enter60 {v0 v1 : Value} {k : Value → World → Prop} {w : World} (h : S60 v0 v1 k w) : CallK Try.prog 60 [v0, v1] k w :=
  zi_ (pl := pl60) zbb_ Try.func60 body60 (by kernel_rfl) (of_decide_eq_true (by kernel_rfl)) (by kernel_rfl) (by kernel_rfl) (Eq.mpr (same60 v0 v1 k w) h)

def pl57 : Plans := fun _ => ⟨false, [], .nil⟩
def S57 (v0 v1 : Value) (k : Value → World → Prop) (w : World) : Prop :=
 Rd Try.prog (WS.at w) (sBin .leq 3 true v1 (.int .i64 1)) fun t1 =>
 zk_ t1
  (k (.int .i64 0) w)
  (CallK Try.prog 117 [v0] (fun t2 w3 =>
  Join (fun K4 =>
  Rd Try.prog (WS.at w3) (sBin .gtr 3 true v1 (.int .i64 200)) fun t7 =>
  zk_ t7
   (Rd Try.prog (WS.at w3) (sBin .mul 3 true t2 (.int .i64 256)) fun t8 =>
   CallK Try.prog 117 [v0] (fun t9 w10 =>
   Rd Try.prog (WS.at w10) (sBin .add 3 false t8 t9) fun t11 =>
   K4 (F.upd (F.upd (F.upd (F.upd (F.upd (F.upd (F.upd (F.upd (F.upd (F.upd (F.upd (F.upd (F.upd (F.upd (zp_ [v0, v1]) 4 (.int .i64 0)) 6 v1) 7 t1) 8 v0) 9 t2) 5 t2) 10 v1) 11 t7) 12 t2) 13 t8) 14 v0) 15 t9) 16 t11) 5 t11) w10) w3)
   (K4 (F.upd (F.upd (F.upd (F.upd (F.upd (F.upd (F.upd (F.upd (zp_ [v0, v1]) 4 (.int .i64 0)) 6 v1) 7 t1) 8 v0) 9 t2) 5 t2) 10 v1) 11 t7) w3)) (fun f5 w6 =>
  Rd Try.prog (WS.at w6) (sBin .rem 3 false (f5 5) (f5 1)) fun t12 =>
  k t12 w6)) w)
theorem body57 : Try.f57.body = some (zg_ Try.f57) := by kernel_rfl
theorem same57 (v0 v1 : Value) (k : Value → World → Prop) (w : World) : wpF Try.prog pl57 (zg_ Try.f57) (zt_ Try.prog Try.f57.results.toList k) (zp_ [v0, v1]) w = S57 v0 v1 k w := by kernel_rfl
theorem enter57 {v0 v1 : Value} {k : Value → World → Prop} {w : World} (h : S57 v0 v1 k w) : CallK Try.prog 57 [v0, v1] k w :=
  zi_ (pl := pl57) zbb_ Try.func57 body57 (by kernel_rfl) (of_decide_eq_true (by kernel_rfl)) (by kernel_rfl) (by kernel_rfl) (Eq.mpr (same57 v0 v1 k w) h)

def pl141 : Plans := fun _ => ⟨false, [], .nil⟩
def S141 (v0 v1 v2 : Value) (k : Value → World → Prop) (w : World) : Prop :=
 Do Try.prog (sBox 26 v1) (fun t1 w2 =>
 Rd Try.prog (WS.at w2) (sBin .add 3 true v2 (.int .i64 1)) fun t3 =>
 CallK Try.prog 57 [v0, t3] (fun t4 w5 =>
 zfb_ [13, 14, 17, 18, 19, 20, 21, 22, 23, 24, 7, 15, 16, 8] (fun Q6 f7 w8 =>
  Rd Try.prog (WS.at w8) (sBin .gtr 3 true (f7 8) (.int .i64 0)) fun t9 =>
  zk_ t9
   (Rd Try.prog (WS.at w8) (za_ 26 (f7 4) 1) fun t10 =>
   Rd Try.prog (WS.at w8) (zc_ 3 t10) fun t11 =>
   CallK Try.prog 96 [(.int .i64 1), t11] (fun t12 w13 =>
   CallK Try.prog 57 [(f7 0), t12] (fun t14 w15 =>
   Do Try.prog (zh_ 27 1 [(0, t14)]) (fun t16 w17 =>
   Do Try.prog (ze_ .append #[27, 27] 27 [false, false] [(f7 7), t16]) (fun t18 w19 =>
   Rd Try.prog (WS.at w19) (sBin .sub 3 true (f7 8) (.int .i64 1)) fun t20 =>
   Q6 .normal (F.upd (F.upd (F.upd (F.upd (F.upd (F.upd (F.upd (F.upd (F.upd (F.upd (F.upd (F.upd (F.upd (F.upd f7 13 (f7 8)) 14 t9) 17 (f7 7)) 18 (f7 0)) 19 t10) 20 t11) 21 t12) 22 t14) 23 t16) 24 t18) 7 t18) 15 (f7 8)) 16 t20) 8 t20) w19) w17) w15) w13) w8)
   (Q6 (.exit 0) (F.upd (F.upd f7 13 (f7 8)) 14 t9) w8))
  (zr_ 0 (seqQ (fun f21 w22 =>
 Join (fun K23 =>
 Rd Try.prog (WS.at w22) (ze_ .len #[27] 3 [false] [(f21 7)]) fun t26 =>
 Rd Try.prog (WS.at w22) (sBin .gtr 3 true t26 (.int .i64 0)) fun t27 =>
 zb_ t27 true (fun k w' => k (f21 0) w') (fun t28 w29 =>
 zb_ t27 true (fun k w' => CallK Try.prog 60 [t28, (.int .i64 60)] k w') (fun t30 w31 =>
 Rd Try.prog (WS.at w31) (zcb_ t27 t30 (.bool false)) fun t32 =>
 zk_ t32
  (Do Try.prog (zh_ 27 2 [(0, (.int .i64 (-1))), (1, (.int .i64 4))]) (fun t33 w34 =>
  CallK Try.prog 69 [(f21 0), t33] (fun t35 w36 =>
  Rd Try.prog (WS.at w36) (zd_ 27 (f21 7) (.int .i64 0)) fun t37 =>
  Do Try.prog (zu_ 3 t37 t35) (fun _ w38 =>
  K23 (F.upd (F.upd (F.upd (F.upd (F.upd (F.upd (F.upd (F.upd (F.upd (F.upd (F.upd (F.upd f21 25 (f21 7)) 26 t26) 27 t27) 28 t27) 29 t28) 30 t30) 31 t32) 32 (f21 7)) 33 (f21 0)) 34 t33) 35 t35) 36 t37) w38) w36) w34) w31)
  (K23 (F.upd (F.upd (F.upd (F.upd (F.upd (F.upd (F.upd f21 25 (f21 7)) 26 t26) 27 t27) 28 t27) 29 t28) 30 t30) 31 t32) w31)) w29) w22) (fun f24 w25 =>
 k (f24 7) w25)) (zt_ Try.prog [.tmp 6] k)))
  (F.upd (F.upd (F.upd (F.upd (F.upd (F.upd (F.upd (F.upd (zp_ [v0, v1, v2]) 4 t1) 6 (.slice none 0 0)) 7 (.slice none 0 0)) 9 v0) 10 v2) 11 t3) 12 t4) 8 t4) w5) w2) w
theorem body141 : Try.f141.body = some (zg_ Try.f141) := by kernel_rfl
theorem same141 (v0 v1 v2 : Value) (k : Value → World → Prop) (w : World) : wpF Try.prog pl141 (zg_ Try.f141) (zt_ Try.prog Try.f141.results.toList k) (zp_ [v0, v1, v2]) w = S141 v0 v1 v2 k w := by kernel_rfl
theorem enter141 {v0 v1 v2 : Value} {k : Value → World → Prop} {w : World} (h : S141 v0 v1 v2 k w) : CallK Try.prog 141 [v0, v1, v2] k w :=
  zi_ (pl := pl141) zbb_ Try.func141 body141 (by kernel_rfl) (of_decide_eq_true (by kernel_rfl)) (by kernel_rfl) (by kernel_rfl) (Eq.mpr (same141 v0 v1 v2 k w) h)

def pl97 : Plans := fun _ => ⟨false, [], .nil⟩
def S97 (v0 v1 : Value) (k : Value → World → Prop) (w : World) : Prop :=
 Do Try.prog (sBox 26 v1) (fun t1 w2 =>
 Rd Try.prog (WS.at w2) (zc_ 26 t1) fun t3 =>
 CallK Try.prog 140 [t3, (.int .i64 3)] (fun t4 w5 =>
 Rd Try.prog (WS.at w5) (zeb_ t4 0) fun t6 =>
 Rd Try.prog (WS.at w5) (zeb_ t4 1) fun t7 =>
 zb_ t7 true (fun k w' => k t6 w') (fun t8 w9 =>
 zb_ t7 true (fun k w' => Rd Try.prog (WS.at w9) (ze_ .len #[35] 3 [false] [t8]) fun v => k v w') (fun t10 w11 =>
 zb_ t7 true (fun k w' => Rd Try.prog (WS.at w11) (sBin .gtr 3 true t10 (.int .i64 0)) fun v => k v w') (fun t12 w13 =>
 Rd Try.prog (WS.at w13) (zcb_ t7 t12 (.bool false)) fun t14 =>
 zb_ t14 true (fun k w' => k v0 w') (fun t15 w16 =>
 zb_ t14 true (fun k w' => CallK Try.prog 60 [t15, (.int .i64 2)] k w') (fun t17 w18 =>
 Rd Try.prog (WS.at w18) (zcb_ t14 t17 (.bool false)) fun t19 =>
 zk_ t19
  (Rd Try.prog (WS.at w18) (ze_ .len #[35] 3 [false] [t6]) fun t20 =>
  CallK Try.prog 57 [v0, t20] (fun t21 w22 =>
  Rd Try.prog (WS.at w22) (zd_ 35 t6 t21) fun t23 =>
  Rd Try.prog (WS.at w22) (zc_ 27 t23) fun t24 =>
  CallK Try.prog 80 [t24] (fun t25 w26 =>
  Join (fun K27 =>
  CallK Try.prog 60 [v0, (.int .i64 3)] (fun t30 w31 =>
  zk_ t30
   (Do Try.prog (ze_ .append #[27, 27] 27 [false, false] [t25, t25]) (fun t32 w33 =>
   K27 (F.upd (F.upd (F.upd (F.upd (F.upd (F.upd (F.upd (F.upd (F.upd (F.upd (F.upd (F.upd (F.upd (F.upd (F.upd (F.upd (F.upd (F.upd (F.upd (F.upd (F.upd (F.upd (F.upd (F.upd (F.upd (F.upd (F.upd (F.upd (F.upd (F.upd (F.upd (F.upd (F.upd (F.upd (zp_ [v0, v1]) 3 t1) 4 (.slice none 0 0)) 9 t3) 10 t4) 8 t4) 11 t6) 12 t7) 5 t6) 6 t7) 13 t7) 14 t7) 15 t8) 16 t10) 17 t12) 18 t14) 19 t14) 20 t15) 21 t17) 22 t19) 23 t6) 24 v0) 25 t6) 26 t20) 27 t21) 28 t23) 29 t24) 30 t25) 7 t25) 31 v0) 32 t30) 33 t25) 34 t25) 35 t32) 7 t32) w33) w31)
   (K27 (F.upd (F.upd (F.upd (F.upd (F.upd (F.upd (F.upd (F.upd (F.upd (F.upd (F.upd (F.upd (F.upd (F.upd (F.upd (F.upd (F.upd (F.upd (F.upd (F.upd (F.upd (F.upd (F.upd (F.upd (F.upd (F.upd (F.upd (F.upd (F.upd (F.upd (zp_ [v0, v1]) 3 t1) 4 (.slice none 0 0)) 9 t3) 10 t4) 8 t4) 11 t6) 12 t7) 5 t6) 6 t7) 13 t7) 14 t7) 15 t8) 16 t10) 17 t12) 18 t14) 19 t14) 20 t15) 21 t17) 22 t19) 23 t6) 24 v0) 25 t6) 26 t20) 27 t21) 28 t23) 29 t24) 30 t25) 7 t25) 31 v0) 32 t30) w31)) w26) (fun f28 w29 =>
  k (f28 7) w29)) w22) w18)
  (Rd Try.prog (WS.at w18) (zc_ 26 t1) fun t34 =>
  CallK Try.prog 141 [v0, t34, (.int .i64 5)] (fun t35 w36 =>
  k t35 w36) w18)) w16) w13) w11) w9) w5) w2) w
theorem body97 : Try.f97.body = some (zg_ Try.f97) := by kernel_rfl
theorem same97 (v0 v1 : Value) (k : Value → World → Prop) (w : World) : wpF Try.prog pl97 (zg_ Try.f97) (zt_ Try.prog Try.f97.results.toList k) (zp_ [v0, v1]) w = S97 v0 v1 k w := by kernel_rfl
theorem enter97 {v0 v1 : Value} {k : Value → World → Prop} {w : World} (h : S97 v0 v1 k w) : CallK Try.prog 97 [v0, v1] k w :=
  zi_ (pl := pl97) zbb_ Try.func97 body97 (by kernel_rfl) (of_decide_eq_true (by kernel_rfl)) (by kernel_rfl) (by kernel_rfl) (Eq.mpr (same97 v0 v1 k w) h)

def pl150 : Plans := fun _ => ⟨false, [], .nil⟩
def S150 (v0 v1 : Value) (k : Value → World → Prop) (w : World) : Prop :=
 Do Try.prog (sBox 106 v1) (fun t1 w2 =>
 Rd Try.prog (WS.at w2) (ze_ .len #[24] 3 [false] [v0]) fun t3 =>
 zfb_ [10, 11, 12, 6, 13, 14, 15, 16, 4, 17, 9] (fun Q4 f5 w6 =>
  Rd Try.prog (WS.at w6) (sBin .lss 3 false (f5 9) (f5 8)) fun t7 =>
  zk_ t7
   (Rd Try.prog (WS.at w6) (zd_ 24 (f5 7) (f5 9)) fun t8 =>
   Rd Try.prog (WS.at w6) (zc_ 106 t8) fun t9 =>
   Do Try.prog (zib_ 106) (fun t10 w11 =>
   Do Try.prog (zu_ 106 t10 t9) (fun _ w12 =>
   Rd Try.prog (WS.at w12) (zc_ 106 (f5 3)) fun t13 =>
   Rd Try.prog (WS.at w12) (zc_ 106 t10) fun t14 =>
   CallK Try.prog 109 [t13, t14] (fun t15 w16 =>
   zk_ t15
    (Q4 .ret (F.upd (F.upd (F.upd (F.upd (F.upd (F.upd (F.upd (F.upd (F.upd f5 10 t7) 11 t8) 12 t9) 6 t10) 13 t13) 14 t14) 15 t15) 16 (f5 0)) 4 (f5 0)) w16)
    (Rd Try.prog (WS.at w16) (sBin .add 3 true (f5 9) (.int .i64 1)) fun t17 =>
    Q4 .normal (F.upd (F.upd (F.upd (F.upd (F.upd (F.upd (F.upd (F.upd (F.upd f5 10 t7) 11 t8) 12 t9) 6 t10) 13 t13) 14 t14) 15 t15) 17 t17) 9 t17) w16)) w12) w11) w6)
   (Q4 (.exit 0) (F.upd f5 10 t7) w6))
  (zr_ 0 (seqQ (fun f18 w19 =>
 Rd Try.prog (WS.at w19) (zc_ 106 (f18 3)) fun t20 =>
 Do Try.prog (zh_ 24 1 [(0, t20)]) (fun t21 w22 =>
 Do Try.prog (ze_ .append #[24, 24] 24 [false, false] [(f18 0), t21]) (fun t23 w24 =>
 k t23 w24) w22) w19) (zt_ Try.prog [.tmp 4] k)))
  (F.upd (F.upd (F.upd (F.upd (F.upd (zp_ [v0, v1]) 3 t1) 4 (.slice none 0 0)) 7 v0) 8 t3) 9 (.int .i64 0)) w2) w
theorem body150 : Try.f150.body = some (zg_ Try.f150) := by kernel_rfl
theorem same150 (v0 v1 : Value) (k : Value → World → Prop) (w : World) : wpF Try.prog pl150 (zg_ Try.f150) (zt_ Try.prog Try.f150.results.toList k) (zp_ [v0, v1]) w = S150 v0 v1 k w := by kernel_rfl
theorem enter150 {v0 v1 : Value} {k : Value → World → Prop} {w : World} (h : S150 v0 v1 k w) : CallK Try.prog 150 [v0, v1] k w :=
  zi_ (pl := pl150) zbb_ Try.func150 body150 (by kernel_rfl) (of_decide_eq_true (by kernel_rfl)) (by kernel_rfl) (by kernel_rfl) (Eq.mpr (same150 v0 v1 k w) h)

open Go Go.Sh Go.RowKit
abbrev TC : Nat := 86
abbrev cur (bc : Nat) (cv : Value) (N : Nat) : Thing := curi TC bc cv N
section
variable {w0 w : World} {L : List Thing} {bc N : Nat} {C : Option Addr} {cap : Nat} {bs : List Int} {k : Value → World → Prop}
theorem zhf_ {i : Nat} {a b : Thing} : (L.set i a).set i b = L.set i b := List.set_set ..
theorem zif_ {i : Nat} {a it : Thing} (hi : L[i]? = some it) : (L.set i a)[i]? = some a := by
  rw [List.getElem?_set, if_pos rfl, if_pos (get_lt hi)]
set_option maxHeartbeats 1600000 in
theorem next_c (H : Apt w0 w L) (i : Nat) (hi : L[i]? = some (cur bc (.slice C bs.length cap) N)) (hC : Byts w0 C bs) (hN : N ≤ 1000000000) (hk : ∀ w' (b : Int), 0 ≤ b → b ≤ 255 → Apt w0 w' (L.set i (cur bc (.slice C bs.length cap) (N + 1))) → k (.int .i64 b) w') :
    CallK Try.prog 117 [ptrv bc] k w := by
  refine enter117 ?_
  unfold S117
  obtain ⟨a, s, h0, h1, H⟩ := H.openCur i hi
  have hi1 := zif_ (a := bx bc [.slice C bs.length cap, .int .i64 a, .int .u64 s] TC) hi
  have hle := hC.le
  refine zed_ (fun f w' => f 0 = ptrv bc ∧ (∃ b : Int, 0 ≤ b ∧ b ≤ 255 ∧ f 3 = .int .i64 b) ∧ Apt w0 w' (L.set i (bx bc [.slice C bs.length cap, .int .i64 a, .int .u64 s] TC))) (fun K hK => ?_) ?_
  · have H := H.drew
    simp only [zq18, zq19, zq20, zq21, zq22, zq23, zq24, zq25, zq26, zq27, zq28, zq4, zq3, zq1, zq2, zq0, zq29, zq30, zq14, zq15, zq16, zq17, zq13, zq10, zq12, zq11, zq7, zq5, zq6, zq9, zq8, zq31, zq32, ite_T, ite_F, zq33, zq34, zq35, Nat.reduceEqDiff, len22, len24, fa26_0, fa26_1, fa26_2, len27, len35, fa86_0, fa86_1, fa86_2, fa97_0, fa97_1, fa106_0, fa106_1, fa145_0, fa145_1, fa145_2, fa145_3, fa145_4, len192]
    rw [ldB3 (H.box i hi1) rfl]
    rw [ldB22 (H.box i hi1) rfl]
    simp only [zq18, zq19, zq20, zq21, zq22, zq23, zq24, zq25, zq26, zq27, zq28, zq4, zq3, zq1, zq2, zq0, zq29, zq30, zq14, zq15, zq16, zq17, zq13, zq10, zq12, zq11, zq7, zq5, zq6, zq9, zq8, zq31, zq32, ite_T, ite_F, zq33, zq34, zq35, Nat.reduceEqDiff, len22, len24, fa26_0, fa26_1, fa26_2, len27, len35, fa86_0, fa86_1, fa86_2, fa97_0, fa97_1, fa106_0, fa106_1, fa145_0, fa145_1, fa145_2, fa145_3, fa145_4, len192]
    by_cases hlt : a < bs.length
    · simp only [hlt, decide_true, zq18, zq19, zq20, zq21, zq22, zq23, zq24, zq25, zq26, zq27, zq28, zq4, zq3, zq1, zq2, zq0, zq29, zq30, zq14, zq15, zq16, zq17, zq13, zq10, zq12, zq11, zq7, zq5, zq6, zq9, zq8, zq31, zq32, ite_T, ite_F, zq33, zq34, zq35, Nat.reduceEqDiff, len22, len24, fa26_0, fa26_1, fa26_2, len27, len35, fa86_0, fa86_1, fa86_2, fa97_0, fa97_1, fa106_0, fa106_1, fa145_0, fa145_1, fa145_2, fa145_3, fa145_4, len192]
      have H := H.drew
      rw [ldB22 (H.box i hi1) rfl]
      rw [ldB3 (H.box i hi1) rfl]
      obtain ⟨m, rfl⟩ : ∃ m : Nat, a = m := ⟨a.toNat, by omega⟩
      have hm : m < bs.length := by omega
      refine rdi (ixn22 hC.ptr hm) (rdi (ld5 ((hC.gr H.gr).cell m hm)) ?_)
      refine zth_ Try.underlying5 Try.underlying3 ?_
      have hs := hC.small m hm
      rw [zm_ (by omega) (by omega)]
      exact hK _ _ ⟨rfl, ⟨_, hs.1, hs.2, rfl⟩, H⟩
    · simp only [hlt, decide_false, zq18, zq19, zq20, zq21, zq22, zq23, zq24, zq25, zq26, zq27, zq28, zq4, zq3, zq1, zq2, zq0, zq29, zq30, zq14, zq15, zq16, zq17, zq13, zq10, zq12, zq11, zq7, zq5, zq6, zq9, zq8, zq31, zq32, ite_T, ite_F, zq33, zq34, zq35, Nat.reduceEqDiff, len22, len24, fa26_0, fa26_1, fa26_2, len27, len35, fa86_0, fa86_1, fa86_2, fa97_0, fa97_1, fa106_0, fa106_1, fa145_0, fa145_1, fa145_2, fa145_3, fa145_4, len192]
      exact hK _ _ ⟨rfl, ⟨0, by omega, by omega, rfl⟩, H⟩
  · clear H
    rintro f w1 ⟨f0, ⟨b, hb0, hb1, f3⟩, H⟩
    simp only [f0, f3, zq18, zq19, zq20, zq21, zq22, zq23, zq24, zq25, zq26, zq27, zq28, zq4, zq3, zq1, zq2, zq0, zq29, zq30, zq14, zq15, zq16, zq17, zq13, zq10, zq12, zq11, zq7, zq5, zq6, zq9, zq8, zq31, zq32, ite_T, ite_F, zq33, zq34, zq35, Nat.reduceEqDiff, len22, len24, fa26_0, fa26_1, fa26_2, len27, len35, fa86_0, fa86_1, fa86_2, fa97_0, fa97_1, fa106_0, fa106_1, fa145_0, fa145_1, fa145_2, fa145_3, fa145_4, len192]
    rw [ldB3 (H.box i hi1) rfl]
    simp only [zq18, zq19, zq20, zq21, zq22, zq23, zq24, zq25, zq26, zq27, zq28, zq4, zq3, zq1, zq2, zq0, zq29, zq30, zq14, zq15, zq16, zq17, zq13, zq10, zq12, zq11, zq7, zq5, zq6, zq9, zq8, zq31, zq32, ite_T, ite_F, zq33, zq34, zq35, Nat.reduceEqDiff, len22, len24, fa26_0, fa26_1, fa26_2, len27, len35, fa86_0, fa86_1, fa86_2, fa97_0, fa97_1, fa106_0, fa106_1, fa145_0, fa145_1, fa145_2, fa145_3, fa145_4, len192]
    rw [zm_ (by omega) (by omega)]
    refine zdb_ H i hi1 sz3 rfl rfl rfl fun w2 H => ?_
    simp only [List.take_succ_cons, List.take_zero, List.drop_succ_cons, List.drop_zero, List.nil_append, List.cons_append, Value.cells, zhf_] at H
    have hi2 := zif_ (a := bx bc [.slice C bs.length cap, .int .i64 (a + 1), .int .u64 s] TC) hi
    rw [ldB84 (H.box i hi2) rfl]
    simp only [zq18, zq19, zq20, zq21, zq22, zq23, zq24, zq25, zq26, zq27, zq28, zq4, zq3, zq1, zq2, zq0, zq29, zq30, zq14, zq15, zq16, zq17, zq13, zq10, zq12, zq11, zq7, zq5, zq6, zq9, zq8, zq31, zq32, ite_T, ite_F, zq33, zq34, zq35, Nat.reduceEqDiff, len22, len24, fa26_0, fa26_1, fa26_2, len27, len35, fa86_0, fa86_1, fa86_2, fa97_0, fa97_1, fa106_0, fa106_1, fa145_0, fa145_1, fa145_2, fa145_3, fa145_4, len192]
    refine zth_ Try.underlying3 Try.underlying84 ?_
    simp only [zq18, zq19, zq20, zq21, zq22, zq23, zq24, zq25, zq26, zq27, zq28, zq4, zq3, zq1, zq2, zq0, zq29, zq30, zq14, zq15, zq16, zq17, zq13, zq10, zq12, zq11, zq7, zq5, zq6, zq9, zq8, zq31, zq32, ite_T, ite_F, zq33, zq34, zq35, Nat.reduceEqDiff, len22, len24, fa26_0, fa26_1, fa26_2, len27, len35, fa86_0, fa86_1, fa86_2, fa97_0, fa97_1, fa106_0, fa106_1, fa145_0, fa145_1, fa145_2, fa145_3, fa145_4, len192]
    refine zdb_ H i hi2 sz84 rfl rfl rfl fun w3 H => ?_
    simp only [List.take_succ_cons, List.take_zero, List.drop_succ_cons, List.drop_zero, List.nil_append, List.cons_append, Value.cells, zhf_] at H
    generalize IntKind.u64.wrap _ = z at H
    have hi3 := zif_ (a := bx bc [.slice C bs.length cap, .int .i64 (a + 1), .int .u64 z] TC) hi
    have H := H.drew
    rw [ldB3 (H.box i hi3) rfl]
    rw [ldB22 (H.box i hi3) rfl]
    simp only [zq18, zq19, zq20, zq21, zq22, zq23, zq24, zq25, zq26, zq27, zq28, zq4, zq3, zq1, zq2, zq0, zq29, zq30, zq14, zq15, zq16, zq17, zq13, zq10, zq12, zq11, zq7, zq5, zq6, zq9, zq8, zq31, zq32, ite_T, ite_F, zq33, zq34, zq35, Nat.reduceEqDiff, len22, len24, fa26_0, fa26_1, fa26_2, len27, len35, fa86_0, fa86_1, fa86_2, fa97_0, fa97_1, fa106_0, fa106_1, fa145_0, fa145_1, fa145_2, fa145_3, fa145_4, len192]
    have fin : ∀ w' (b : Int), 0 ≤ b → b ≤ 255 → Apt w0 w' (L.set i (bx bc [.slice C bs.length cap, .int .i64 (a + 1), .int .u64 z] TC)) → k (.int .i64 b) w' := fun w' b hb hb' H => by
      have H := H.shutCur (N := N + 1) i hi3 (by omega) (by omega)
      rw [zhf_] at H
      exact hk w' b hb hb' H
    by_cases hle2 : a + 1 ≤ bs.length
    · simp only [hle2, decide_true, zq18, zq19, zq20, zq21, zq22, zq23, zq24, zq25, zq26, zq27, zq28, zq4, zq3, zq1, zq2, zq0, zq29, zq30, zq14, zq15, zq16, zq17, zq13, zq10, zq12, zq11, zq7, zq5, zq6, zq9, zq8, zq31, zq32, ite_T, ite_F, zq33, zq34, zq35, Nat.reduceEqDiff, len22, len24, fa26_0, fa26_1, fa26_2, len27, len35, fa86_0, fa86_1, fa86_2, fa97_0, fa97_1, fa106_0, fa106_1, fa145_0, fa145_1, fa145_2, fa145_3, fa145_4, len192]
      exact fin _ b hb0 hb1 H
    · simp only [hle2, decide_false, zq18, zq19, zq20, zq21, zq22, zq23, zq24, zq25, zq26, zq27, zq28, zq4, zq3, zq1, zq2, zq0, zq29, zq30, zq14, zq15, zq16, zq17, zq13, zq10, zq12, zq11, zq7, zq5, zq6, zq9, zq8, zq31, zq32, ite_T, ite_F, zq33, zq34, zq35, Nat.reduceEqDiff, len22, len24, fa26_0, fa26_1, fa26_2, len27, len35, fa86_0, fa86_1, fa86_2, fa97_0, fa97_1, fa106_0, fa106_1, fa145_0, fa145_1, fa145_2, fa145_3, fa145_4, len192]
      rw [ldB84 (H.box i hi3) rfl]
      refine rdi (bin_shr (by omega)) (rdi bin_and ?_)
      have h255 := and255 (z.fdiv (2 ^ (min (40 : Int).toNat IntKind.u64.bits)))
      generalize IntKind.u64.wrap _ = y at *
      refine zth_ Try.underlying84 Try.underlying3 ?_
      rw [zm_ (by omega) (by omega)]
      exact fin _ y h255.1 h255.2 H
theorem zvc_ (H : Apt w0 w L) (i : Nat) (hi : L[i]? = some (cur bc (.slice C bs.length cap) N)) (hC : Byts w0 C bs) (hN : N ≤ 100000000) {n : Int} (hn : n ≤ 60000) (hk : ∀ w' (b : Nat), (n ≤ 1 → b = 0) → (1 < n → (b : Int) < n) → Apt w0 w' (L.set i (cur bc (.slice C bs.length cap) (N + 2))) → k (.int .i64 (b : Int)) w') :
    CallK Try.prog 57 [ptrv bc, .int .i64 n] k w := by
  refine enter57 ?_
  unfold S57
  have more : ∀ {w : World} {m : Nat}, m ≤ N + 2 → Apt w0 w (L.set i (cur bc (.slice C bs.length cap) m)) → Apt w0 w (L.set i (cur bc (.slice C bs.length cap) (N + 2))) := fun {w m} hm H => by
    have hj := zif_ (a := cur bc (.slice C bs.length cap) m) hi
    obtain ⟨a, s, h0, h1, H⟩ := H.openCur i hj
    rw [zhf_] at H
    have hj2 := zif_ (a := bx bc [.slice C bs.length cap, .int .i64 a, .int .u64 s] TC) hi
    have H := H.shutCur (N := N + 2) i hj2 h0 (by omega)
    rw [zhf_] at H
    exact H
  simp only [zq18, zq19, zq20, zq21, zq22, zq23, zq24, zq25, zq26, zq27, zq28, zq4, zq3, zq1, zq2, zq0, zq29, zq30, zq14, zq15, zq16, zq17, zq13, zq10, zq12, zq11, zq7, zq5, zq6, zq9, zq8, zq31, zq32, ite_T, ite_F, zq33, zq34, zq35, Nat.reduceEqDiff, len22, len24, fa26_0, fa26_1, fa26_2, len27, len35, fa86_0, fa86_1, fa86_2, fa97_0, fa97_1, fa106_0, fa106_1, fa145_0, fa145_1, fa145_2, fa145_3, fa145_4, len192]
  by_cases h1 : n ≤ 1
  · simp only [h1, decide_true, zq18, zq19, zq20, zq21, zq22, zq23, zq24, zq25, zq26, zq27, zq28, zq4, zq3, zq1, zq2, zq0, zq29, zq30, zq14, zq15, zq16, zq17, zq13, zq10, zq12, zq11, zq7, zq5, zq6, zq9, zq8, zq31, zq32, ite_T, ite_F, zq33, zq34, zq35, Nat.reduceEqDiff, len22, len24, fa26_0, fa26_1, fa26_2, len27, len35, fa86_0, fa86_1, fa86_2, fa97_0, fa97_1, fa106_0, fa106_1, fa145_0, fa145_1, fa145_2, fa145_3, fa145_4, len192]
    have e : L = L.set i (cur bc (.slice C bs.length cap) N) := by
      obtain ⟨h, e⟩ := List.getElem?_eq_some_iff.1 hi
      rw [← e, List.set_getElem_self]
    rw [e] at H
    exact hk w 0 (fun _ => rfl) (fun h => by omega) (more (by omega) H)
  simp only [h1, decide_false, zq18, zq19, zq20, zq21, zq22, zq23, zq24, zq25, zq26, zq27, zq28, zq4, zq3, zq1, zq2, zq0, zq29, zq30, zq14, zq15, zq16, zq17, zq13, zq10, zq12, zq11, zq7, zq5, zq6, zq9, zq8, zq31, zq32, ite_T, ite_F, zq33, zq34, zq35, Nat.reduceEqDiff, len22, len24, fa26_0, fa26_1, fa26_2, len27, len35, fa86_0, fa86_1, fa86_2, fa97_0, fa97_1, fa106_0, fa106_1, fa145_0, fa145_1, fa145_2, fa145_3, fa145_4, len192]
  refine next_c H i hi hC (by omega) fun w1 b hb0 hb1 H => ?_
  have hj := zif_ (a := cur bc (.slice C bs.length cap) (N + 1)) hi
  have fin : ∀ (x : Int) (w' : World), 0 ≤ x → Apt w0 w' (L.set i (cur bc (.slice C bs.length cap) (N + 2))) → k (.int .i64 (x.tmod n)) w' := fun x w' hx H => by
    have e1 : x.tmod n = x % n := Int.tmod_eq_emod_of_nonneg hx
    have e2 := Int.emod_nonneg x (show n ≠ 0 by omega)
    have e3 := Int.emod_lt_of_pos x (show 0 < n by omega)
    have := hk w' (x % n).toNat (fun h => absurd h h1) (fun _ => by omega) H
    rw [Int.toNat_of_nonneg e2] at this
    rw [e1]
    exact this
  refine zed_ (fun f w' => f 1 = .int .i64 n ∧ ∃ x : Int, 0 ≤ x ∧ f 5 = .int .i64 x ∧ Apt w0 w' (L.set i (cur bc (.slice C bs.length cap) (N + 2)))) (fun K hK => ?_) ?_
  · simp only [zq18, zq19, zq20, zq21, zq22, zq23, zq24, zq25, zq26, zq27, zq28, zq4, zq3, zq1, zq2, zq0, zq29, zq30, zq14, zq15, zq16, zq17, zq13, zq10, zq12, zq11, zq7, zq5, zq6, zq9, zq8, zq31, zq32, ite_T, ite_F, zq33, zq34, zq35, Nat.reduceEqDiff, len22, len24, fa26_0, fa26_1, fa26_2, len27, len35, fa86_0, fa86_1, fa86_2, fa97_0, fa97_1, fa106_0, fa106_1, fa145_0, fa145_1, fa145_2, fa145_3, fa145_4, len192]
    by_cases h2 : 200 < n
    · simp only [h2, decide_true, zq18, zq19, zq20, zq21, zq22, zq23, zq24, zq25, zq26, zq27, zq28, zq4, zq3, zq1, zq2, zq0, zq29, zq30, zq14, zq15, zq16, zq17, zq13, zq10, zq12, zq11, zq7, zq5, zq6, zq9, zq8, zq31, zq32, ite_T, ite_F, zq33, zq34, zq35, Nat.reduceEqDiff, len22, len24, fa26_0, fa26_1, fa26_2, len27, len35, fa86_0, fa86_1, fa86_2, fa97_0, fa97_1, fa106_0, fa106_1, fa145_0, fa145_1, fa145_2, fa145_3, fa145_4, len192]
      rw [zm_ (by omega) (by omega)]
      refine next_c H i hj hC (by omega) fun w2 b2 hc0 hc1 H => ?_
      rw [zhf_] at H
      simp only [zq18, zq19, zq20, zq21, zq22, zq23, zq24, zq25, zq26, zq27, zq28, zq4, zq3, zq1, zq2, zq0, zq29, zq30, zq14, zq15, zq16, zq17, zq13, zq10, zq12, zq11, zq7, zq5, zq6, zq9, zq8, zq31, zq32, ite_T, ite_F, zq33, zq34, zq35, Nat.reduceEqDiff, len22, len24, fa26_0, fa26_1, fa26_2, len27, len35, fa86_0, fa86_1, fa86_2, fa97_0, fa97_1, fa106_0, fa106_1, fa145_0, fa145_1, fa145_2, fa145_3, fa145_4, len192]
      rw [zm_ (by omega) (by omega)]
      exact hK _ _ ⟨rfl, _, by omega, rfl, H⟩
    · simp only [h2, decide_false, zq18, zq19, zq20, zq21, zq22, zq23, zq24, zq25, zq26, zq27, zq28, zq4, zq3, zq1, zq2, zq0, zq29, zq30, zq14, zq15, zq16, zq17, zq13, zq10, zq12, zq11, zq7, zq5, zq6, zq9, zq8, zq31, zq32, ite_T, ite_F, zq33, zq34, zq35, Nat.reduceEqDiff, len22, len24, fa26_0, fa26_1, fa26_2, len27, len35, fa86_0, fa86_1, fa86_2, fa97_0, fa97_1, fa106_0, fa106_1, fa145_0, fa145_1, fa145_2, fa145_3, fa145_4, len192]
      exact hK _ _ ⟨rfl, b, hb0, rfl, more (by omega) H⟩
  · rintro f w2 ⟨f1, x, hx, f5, H⟩
    simp only [f1, f5]
    refine rdi (bin_rem (by omega)) ?_
    exact fin x w2 hx H
theorem one_c (H : Apt w0 w L) (i : Nat) (hi : L[i]? = some (cur bc (.slice C bs.length cap) N)) (hC : Byts w0 C bs) (hN : N ≤ 100000000) {n : Int} (hn : n ≤ 60000) (hk : ∀ w' (b : Bool), Apt w0 w' (L.set i (cur bc (.slice C bs.length cap) (N + 2))) → k (.bool b) w') :
    CallK Try.prog 60 [ptrv bc, .int .i64 n] k w := by
  refine enter60 ?_
  unfold S60
  refine zvc_ H i hi hC hN hn fun w1 b _ _ H => ?_
  simp only [zq18, zq19, zq20, zq21, zq22, zq23, zq24, zq25, zq26, zq27, zq28, zq4, zq3, zq1, zq2, zq0, zq29, zq30, zq14, zq15, zq16, zq17, zq13, zq10, zq12, zq11, zq7, zq5, zq6, zq9, zq8, zq31, zq32, ite_T, ite_F, zq33, zq34, zq35, Nat.reduceEqDiff, len22, len24, fa26_0, fa26_1, fa26_2, len27, len35, fa86_0, fa86_1, fa86_2, fa97_0, fa97_1, fa106_0, fa106_1, fa145_0, fa145_1, fa145_2, fa145_3, fa145_4, len192]
  exact hk _ _ H
theorem among_c (H : Apt w0 w L) (i : Nat) (hi : L[i]? = some (cur bc (.slice C bs.length cap) N)) (hC : Byts w0 C bs) (hN : N ≤ 100000000) {Z : Option Addr} {n cz : Nat} {xs : List Int} (hZ : ∀ w', Apt w0 w' (L.set i (cur bc (.slice C bs.length cap) (N + 2))) → Ints w' Z xs) (hn : n = xs.length) (h0 : 0 < xs.length) (hl : xs.length ≤ 60000) (hk : ∀ w' (j : Nat), j < xs.length → Apt w0 w' (L.set i (cur bc (.slice C bs.length cap) (N + 2))) → k (.int .i64 (xs.getD j 0)) w') :
    CallK Try.prog 69 [ptrv bc, .slice Z n cz] k w := by
  subst hn
  refine enter69 ?_
  unfold S69
  simp only [zq18, zq19, zq20, zq21, zq22, zq23, zq24, zq25, zq26, zq27, zq28, zq4, zq3, zq1, zq2, zq0, zq29, zq30, zq14, zq15, zq16, zq17, zq13, zq10, zq12, zq11, zq7, zq5, zq6, zq9, zq8, zq31, zq32, ite_T, ite_F, zq33, zq34, zq35, Nat.reduceEqDiff, len22, len24, fa26_0, fa26_1, fa26_2, len27, len35, fa86_0, fa86_1, fa86_2, fa97_0, fa97_1, fa106_0, fa106_1, fa145_0, fa145_1, fa145_2, fa145_3, fa145_4, len192]
  refine zvc_ H i hi hC hN (by omega) fun w1 b h1 h2 H => ?_
  have hb : b < xs.length := by
    by_cases h : (xs.length : Int) ≤ 1
    · have := h1 h; omega
    · have := h2 (by omega); omega
  have hz := hZ w1 H
  refine rdi (zwb_ hz.ptr hb) (rdi (ld3 (hz.cell b hb)) ?_)
  exact hk w1 b hb H
end
end Go.Proofs.Yteabbgaffgpegaa

namespace Go.Sh
open Go
inductive RuleCells (F : Nat → Prop) (w : World) : List RuleL → List Value → Prop
  | nil : RuleCells F w [] []
  | cons {r : RuleL} {rs : List RuleL} {Y : Option Addr} {c : Nat} {cells : List Value} : r.2.length ≤ c → IntsF F w Y r.2 → RuleCells F w rs cells → RuleCells F w (r :: rs) (.int .i64 r.1 :: .slice Y r.2.length c :: cells)
section
variable {F E : Nat → Prop} {w w' : World} {rs qs : List RuleL} {cells news : List Value}
theorem RuleCells.len (h : RuleCells F w rs cells) : cells.length = rs.length * 2 := by
  induction h with
  | nil => rfl
  | cons _ _ _ ih => simp only [List.length_cons, ih]; omega
theorem RuleCells.mono (h : RuleCells F w rs cells) (he : ∀ b, F b → E b) : RuleCells E w rs cells := by
  induction h with
  | nil => exact .nil
  | cons h1 h2 _ ih => exact .cons h1 (h2.mono he) ih
theorem RuleCells.gr (h : RuleCells F w rs cells) (g : Gr w w') : RuleCells F w' rs cells := by
  induction h with
  | nil => exact .nil
  | cons h1 h2 _ ih => exact .cons h1 (h2.gr g) ih
theorem IntsF.same' {X : Option Addr} {xs : List Int} (h : IntsF F w X xs) (hs : ∀ q, F q → w'.heap[q]? = w.heap[q]?) : IntsF F w' X xs :=
  ⟨⟨h.is.le, h.is.ptr, fun j hj => by
    have h1 := h.is.cell j hj
    have h2 : w'.heap[((ad X).add j).block]? = w.heap[((ad X).add j).block]? := hs _ (by rw [zac_]; exact h.foot (by omega))
    unfold World.cell? at h1 ⊢
    rw [h2]
    exact h1⟩, h.foot⟩
theorem RuleCells.same (h : RuleCells F w rs cells) (hs : ∀ q, F q → w'.heap[q]? = w.heap[q]?) : RuleCells F w' rs cells := by
  induction h with
  | nil => exact .nil
  | cons h1 h2 _ ih => exact .cons h1 (h2.same' hs) ih
theorem RuleCells.append (h : RuleCells F w rs cells) (h' : RuleCells F w qs news) : RuleCells F w (rs ++ qs) (cells ++ news) := by
  induction h with
  | nil => exact h'
  | cons h1 h2 _ ih => exact .cons h1 h2 ih
theorem RuleCells.one (h : RuleCells F w rs cells) : ∀ v ∈ cells, v.oneCell' = true := by
  induction h with
  | nil => intro v hv; simp at hv
  | cons h1 h2 _ ih =>
    intro v hv
    rcases List.mem_cons.1 hv with rfl | hv
    · rfl
    · rcases List.mem_cons.1 hv with rfl | hv
      · rfl
      · exact ih v hv
theorem RuleCells.lt (h : RuleCells F w rs cells) : RuleCells (fun b => F b ∧ b < w.heap.size) w rs cells := by
  induction h with
  | nil => exact .nil
  | @cons r rs Y c cells h1 h2 _ ih =>
    refine .cons h1 ⟨h2.is, fun hp => ⟨h2.foot hp, ?_⟩⟩ ih
    have h3 := h2.is.cell 0 hp
    have : ((ad Y).add 0).block < w.heap.size := by
      unfold World.cell? at h3
      cases hb : w.heap[((ad Y).add 0).block]? with
      | none => rw [hb] at h3; cases h3
      | some _ => exact (Array.getElem?_eq_some_iff.1 hb).1
    rwa [zac_] at this
theorem RuleCells.cell (h : RuleCells F w rs cells) : ∀ j, j < rs.length → ∃ Y c, cells[j * 2]? = some (.int .i64 (rul rs j).1) ∧ cells[j * 2 + 1]? = some (.slice Y (rul rs j).2.length c) ∧ (rul rs j).2.length ≤ c ∧ IntsF F w Y (rul rs j).2 := by
  induction h with
  | nil => intro j hj; simp at hj
  | cons h1 h2 _ ih =>
    intro j hj
    cases j with
    | zero => exact ⟨_, _, rfl, rfl, h1, h2⟩
    | succ j =>
      obtain ⟨Y, c, a1, a2, a3, a4⟩ := ih j (by simpa using hj)
      have e : ∀ (r : RuleL) (rs : List RuleL), rul (r :: rs) (j + 1) = rul rs j := fun r rs => by simp [rul]
      rw [e]
      refine ⟨Y, c, ?_, ?_, a3, a4⟩
      · rw [show (j + 1) * 2 = j * 2 + 1 + 1 from by omega]
        simpa using a1
      · rw [show (j + 1) * 2 + 1 = j * 2 + 1 + 1 + 1 from by omega]
        simpa using a2
def OwnG (e : Nat) (F : Nat → Prop) (w : World) (B : Nat) (X : Option Addr) (c : Nat) (rs : List RuleL) : Prop := ∃ cells, Row w B e 2 X rs.length c cells ∧ RuleCells (fun q => F q ∧ blk X ≠ some q) w rs cells
def gow (e : Nat) (ft : Nat → Prop) (X : Option Addr) (c : Nat) (rs : List RuleL) : Thing := ⟨fun w => OwnG e ft w 0 X c rs, fun q => blk X = some q ∨ ft q⟩
theorem zrg_ {e : Nat} {ft : Nat → Prop} {B c : Nat} {X : Option Addr} (h : OwnG e ft w B X c rs) : ∀ w', (∀ q, (gow e ft X c rs).ft q → w'.heap[q]? = w.heap[q]?) → (gow e ft X c rs).P w' := fun w' hs => by
  obtain ⟨cells, h1, h2⟩ := h
  exact ⟨cells, (Row.mono h1 (Nat.zero_le B)).same fun q hq => hs q (.inl hq), h2.same fun q hq => hs q (.inr hq.1)⟩
theorem OwnG.read {e : Nat} {B c : Nat} {X : Option Addr} (h : OwnG e F w B X c rs) : RulesF (fun _ => True) w X rs := by
  obtain ⟨cells, h1, h2⟩ := h
  have hcap := Row.cap h1
  refine ⟨by omega, fun hp => h1.ptr hp, fun _ => trivial, fun j hj => ?_⟩
  obtain ⟨Y, d, a1, a2, a3, a4⟩ := h2.cell j hj
  exact ⟨Y, d, h1.src.cell _ _ a1, h1.src.cell _ _ a2, a3, a4.mono fun _ _ => trivial⟩
theorem Apt.gow {w0 : World} {L : List Thing} (H : Apt w0 w L) (i : Nat) {e : Nat} {ft : Nat → Prop} {c : Nat} {X : Option Addr} (hi : L[i]? = some (Sh.gow e ft X c rs)) : OwnG e ft w 0 X c rs := H.get i hi
theorem Apt.addGow {w0 : World} {L : List Thing} {e c : Nat} {X : Option Addr} (H : Apt w0 w L) (g : Gr w w') (hr : Row w' w.heap.size e 2 X rs.length c cells) (hc : RuleCells (fun q => w.heap.size ≤ q ∧ blk X ≠ some q) w' rs cells) : Apt w0 w' (L ++ [Sh.gow e (fun q => w.heap.size ≤ q ∧ q < w'.heap.size) X c rs]) := by
  refine H.add g _ (fun q hq => ?_) (fun q hq => ?_) (zrg_ ⟨cells, hr, hc.lt.mono fun b hb => ⟨⟨hb.1.1, hb.2⟩, hb.1.2⟩⟩)
  · rcases hq with hq | hq
    · exact (hr.ge hq).1
    · exact hq.1
  · rcases hq with hq | hq
    · exact (hr.ge hq).2
    · exact hq.2
end
structure Drawn (m : Nat) (gm : Gram) : Prop where
  nons : 0 ≤ gm.nons ∧ gm.nons ≤ 1000
  toks : 0 ≤ gm.toks ∧ gm.toks ≤ 1000
  some : 0 < gm.rules.length
  few : gm.rules.length ≤ m
  rights : ∀ r ∈ gm.rules, r.2.length ≤ 1000
end Go.Sh

namespace Go.Proofs.Yteabbgaffgpegaa
open Go Go.Sh Go.RowKit
abbrev gth (ft : Nat → Prop) (X : Option Addr) (c : Nat) (rs : List RuleL) : Thing := gow 106 ft X c rs
theorem rng8 : Array.range 8 = #[0, 1, 2, 3, 4, 5, 6, 7] := by decide
theorem rng10 : Array.range 10 = #[0, 1, 2, 3, 4, 5, 6, 7, 8, 9] := by decide
section
variable {w0 w : World} {L : List Thing} {bc N : Nat} {C : Option Addr} {cap : Nat} {bs : List Int} {k : Value → World → Prop}
theorem nilF (F : Nat → Prop) (w : World) : IntsF F w none [] := ⟨⟨by simp, fun h => by simp at h, fun j hj => by simp at hj⟩, fun h => by simp at h⟩
theorem ltF {F : Nat → Prop} {w : World} {X : Option Addr} {xs : List Int} (h : IntsF F w X xs) : IntsF (fun b => F b ∧ b < w.heap.size) w X xs := ⟨h.is, fun hp => ⟨h.foot hp, (IntsF.of_ints h.is).foot hp⟩⟩
set_option maxHeartbeats 6400000 in
theorem known_c {E : List Thing} (H : Apt w0 w (cur bc (.slice C bs.length cap) N :: E)) (hC : Byts w0 C bs) (hN : N ≤ 10000000) (hk : ∀ w' gm ft X c, Drawn 100 gm → Apt w0 w' (cur bc (.slice C bs.length cap) (N + 2) :: gth ft X c gm.rules :: E) → k (.agg #[.int .i64 gm.nons, .int .i64 gm.toks, .slice X gm.rules.length c]) w') :
    CallK Try.prog 149 [ptrv bc] k w := by
  refine enter149 ?_
  unfold S149
  refine zpb_ H inf26 fun b1 w1 H => ?_
  have H := H.insert 1
  simp only [List.take_succ_cons, List.take_zero, List.drop_succ_cons, List.drop_zero, List.nil_append, List.cons_append] at H
  refine zvc_ H 0 rfl hC (by omega) (by omega) fun wA b _ hb8 H => ?_
  have hb8 := hb8 (by omega)
  simp only [List.set_cons_zero] at H
  have fin : ∀ (wB : World) (bX c : Nat) (gm : Gram) (cells : List Value), Drawn 100 gm → Gr wA wB → Row wB wA.heap.size 106 2 (some ⟨bX, 0, none⟩) gm.rules.length c cells → RuleCells (fun q => wA.heap.size ≤ q ∧ blk (some (⟨bX, 0, none⟩ : Addr)) ≠ some q) wB gm.rules cells → Do Try.prog (zu_ 26 (ptrv b1) (.agg #[.int .i64 gm.nons, .int .i64 gm.toks, .slice (some ⟨bX, 0, none⟩) gm.rules.length c])) (fun _ w' => Rd Try.prog (WS.at w') (zjb_ 26 (ptrv b1)) fun v => k v w') wB := fun wB bX c gm cells hd g hr hc => by
    have H := H.addGow g hr hc
    have H := H.insert 1
    simp only [List.take_succ_cons, List.take_zero, List.drop_succ_cons, List.drop_zero, List.nil_append, List.cons_append] at H
    refine zdb_ H 2 rfl sz26 rfl rfl rfl fun w2 H => ?_
    simp only [List.set_cons_zero, List.set_cons_succ] at H
    rw [ztc_, zw_ zmb_ sz26 rfl (H.box 2 rfl)]
    have H := H.erase 2
    simp only [List.eraseIdx_cons_zero, List.eraseIdx_cons_succ] at H
    exact hk w2 gm _ _ c hd H
  obtain rfl | rfl | rfl | rfl | rfl | rfl | rfl | rfl : b = 0 ∨ b = 1 ∨ b = 2 ∨ b = 3 ∨ b = 4 ∨ b = 5 ∨ b = 6 ∨ b = 7 := by omega
  · simp only [show (((0 : Nat) : Int) = 0) from by omega, decide_true, decide_false, zq18, zq19, zq20, zq21, zq22, zq23, zq24, zq25, zq26, zq27, zq28, zq4, zq3, zq1, zq2, zq0, zq29, zq30, zq14, zq15, zq16, zq17, zq13, zq10, zq12, zq11, zq7, zq5, zq6, zq9, zq8, zq31, zq32, ite_T, ite_F, zq33, zq34, zq35, Nat.reduceEqDiff, len22, len24, fa26_0, fa26_1, fa26_2, len27, len35, fa86_0, fa86_1, fa86_2, fa97_0, fa97_1, fa106_0, fa106_1, fa145_0, fa145_1, fa145_2, fa145_3, fa145_4, len192]
    refine zv_ u27 inf3 (cells := ints [-1, 0, -2]) (by decide) (by decide) (by simp [Instr.fill, madeCells, Value.cells, rng3, ints]) rfl fun c0 v0 _ _ g0 _ r0 => ?_
    have i0 : IntsF (fun b => wA.heap.size ≤ b) v0 (some ⟨c0, 0, none⟩) [-1, 0, -2] := (IntsF.of_own (r0 _ (Nat.le_refl _))).mono fun b hb => Nat.le_trans (Gr.refl wA).size hb.1
    have G0 := g0
    rw [ztb_ (cells := #[.int .i64 0, .slice (some ⟨c0, 0, none⟩) 3 3]) rfl]
    rw [ztb_ (cells := #[.int .i64 0, .slice none 0 0]) rfl]
    refine zv_ u24 zvb_ (cells := [.int .i64 0, .slice (some ⟨c0, 0, none⟩) 3 3, .int .i64 0, .slice none 0 0]) (by decide) (by decide) (by simp [Instr.fill, madeCells, Value.cells, rng4]) rfl fun bX wB hX1 _ gB _ rB => ?_
    rw [bd26 (cells := #[.int .i64 1, .int .i64 2, .slice (some ⟨bX, 0, none⟩) 2 2]) rfl]
    have j0 := ((ltF i0).gr gB).mono (E := fun q => wA.heap.size ≤ q ∧ blk (some (⟨bX, 0, none⟩ : Addr)) ≠ some q) fun q hq => ⟨hq.1, fun e => absurd hq.2 (by have := Option.some.inj (show some bX = some q from e); omega)⟩
    exact fin wB bX 2 ⟨1, 2, [(0, [-1, 0, -2]), (0, [])]⟩ _ ⟨⟨by decide, by decide⟩, ⟨by decide, by decide⟩, by decide, by decide, by decide⟩ (zf_ G0 gB) (rB _ G0.size) (.cons (r := (0, [-1, 0, -2])) (Nat.le_refl _) j0 (.cons (r := (0, [])) (Nat.le_refl _) (nilF _ _) .nil))
  · simp only [show ¬ (((1 : Nat) : Int) = 0) from by omega, show (((1 : Nat) : Int) = 1) from by omega, decide_true, decide_false, zq18, zq19, zq20, zq21, zq22, zq23, zq24, zq25, zq26, zq27, zq28, zq4, zq3, zq1, zq2, zq0, zq29, zq30, zq14, zq15, zq16, zq17, zq13, zq10, zq12, zq11, zq7, zq5, zq6, zq9, zq8, zq31, zq32, ite_T, ite_F, zq33, zq34, zq35, Nat.reduceEqDiff, len22, len24, fa26_0, fa26_1, fa26_2, len27, len35, fa86_0, fa86_1, fa86_2, fa97_0, fa97_1, fa106_0, fa106_1, fa145_0, fa145_1, fa145_2, fa145_3, fa145_4, len192]
    refine zv_ u27 inf3 (cells := ints [0, 0]) (by decide) (by decide) (by simp [Instr.fill, madeCells, Value.cells, rng2, ints]) rfl fun c0 v0 _ _ g0 _ r0 => ?_
    have i0 : IntsF (fun b => wA.heap.size ≤ b) v0 (some ⟨c0, 0, none⟩) [0, 0] := (IntsF.of_own (r0 _ (Nat.le_refl _))).mono fun b hb => Nat.le_trans (Gr.refl wA).size hb.1
    have G0 := g0
    rw [ztb_ (cells := #[.int .i64 0, .slice (some ⟨c0, 0, none⟩) 2 2]) rfl]
    refine zv_ u27 inf3 (cells := ints [-1, 0, -2]) (by decide) (by decide) (by simp [Instr.fill, madeCells, Value.cells, rng3, ints]) rfl fun c1 v1 _ _ g1 _ r1 => ?_
    have i1 : IntsF (fun b => wA.heap.size ≤ b) v1 (some ⟨c1, 0, none⟩) [-1, 0, -2] := (IntsF.of_own (r1 _ (Nat.le_refl _))).mono fun b hb => Nat.le_trans G0.size hb.1
    have G1 := zf_ G0 g1
    rw [ztb_ (cells := #[.int .i64 0, .slice (some ⟨c1, 0, none⟩) 3 3]) rfl]
    refine zv_ u27 inf3 (cells := ints [-1, -2]) (by decide) (by decide) (by simp [Instr.fill, madeCells, Value.cells, rng2, ints]) rfl fun c2 v2 _ _ g2 _ r2 => ?_
    have i2 : IntsF (fun b => wA.heap.size ≤ b) v2 (some ⟨c2, 0, none⟩) [-1, -2] := (IntsF.of_own (r2 _ (Nat.le_refl _))).mono fun b hb => Nat.le_trans G1.size hb.1
    have G2 := zf_ G1 g2
    rw [ztb_ (cells := #[.int .i64 0, .slice (some ⟨c2, 0, none⟩) 2 2]) rfl]
    refine zv_ u24 zvb_ (cells := [.int .i64 0, .slice (some ⟨c0, 0, none⟩) 2 2, .int .i64 0, .slice (some ⟨c1, 0, none⟩) 3 3, .int .i64 0, .slice (some ⟨c2, 0, none⟩) 2 2]) (by decide) (by decide) (by simp [Instr.fill, madeCells, Value.cells, rng6]) rfl fun bX wB hX1 _ gB _ rB => ?_
    rw [bd26 (cells := #[.int .i64 1, .int .i64 2, .slice (some ⟨bX, 0, none⟩) 3 3]) rfl]
    have j0 := ((ltF ((i0.gr g1).gr g2)).gr gB).mono (E := fun q => wA.heap.size ≤ q ∧ blk (some (⟨bX, 0, none⟩ : Addr)) ≠ some q) fun q hq => ⟨hq.1, fun e => absurd hq.2 (by have := Option.some.inj (show some bX = some q from e); omega)⟩
    have j1 := ((ltF (i1.gr g2)).gr gB).mono (E := fun q => wA.heap.size ≤ q ∧ blk (some (⟨bX, 0, none⟩ : Addr)) ≠ some q) fun q hq => ⟨hq.1, fun e => absurd hq.2 (by have := Option.some.inj (show some bX = some q from e); omega)⟩
    have j2 := ((ltF i2).gr gB).mono (E := fun q => wA.heap.size ≤ q ∧ blk (some (⟨bX, 0, none⟩ : Addr)) ≠ some q) fun q hq => ⟨hq.1, fun e => absurd hq.2 (by have := Option.some.inj (show some bX = some q from e); omega)⟩
    exact fin wB bX 3 ⟨1, 2, [(0, [0, 0]), (0, [-1, 0, -2]), (0, [-1, -2])]⟩ _ ⟨⟨by decide, by decide⟩, ⟨by decide, by decide⟩, by decide, by decide, by decide⟩ (zf_ G2 gB) (rB _ G2.size) (.cons (r := (0, [0, 0])) (Nat.le_refl _) j0 (.cons (r := (0, [-1, 0, -2])) (Nat.le_refl _) j1 (.cons (r := (0, [-1, -2])) (Nat.le_refl _) j2 .nil)))
  · simp only [show ¬ (((2 : Nat) : Int) = 0) from by omega, show ¬ (((2 : Nat) : Int) = 1) from by omega, show (((2 : Nat) : Int) = 2) from by omega, decide_true, decide_false, zq18, zq19, zq20, zq21, zq22, zq23, zq24, zq25, zq26, zq27, zq28, zq4, zq3, zq1, zq2, zq0, zq29, zq30, zq14, zq15, zq16, zq17, zq13, zq10, zq12, zq11, zq7, zq5, zq6, zq9, zq8, zq31, zq32, ite_T, ite_F, zq33, zq34, zq35, Nat.reduceEqDiff, len22, len24, fa26_0, fa26_1, fa26_2, len27, len35, fa86_0, fa86_1, fa86_2, fa97_0, fa97_1, fa106_0, fa106_1, fa145_0, fa145_1, fa145_2, fa145_3, fa145_4, len192]
    refine zv_ u27 inf3 (cells := ints [0, -3, 1]) (by decide) (by decide) (by simp [Instr.fill, madeCells, Value.cells, rng3, ints]) rfl fun c0 v0 _ _ g0 _ r0 => ?_
    have i0 : IntsF (fun b => wA.heap.size ≤ b) v0 (some ⟨c0, 0, none⟩) [0, -3, 1] := (IntsF.of_own (r0 _ (Nat.le_refl _))).mono fun b hb => Nat.le_trans (Gr.refl wA).size hb.1
    have G0 := g0
    rw [ztb_ (cells := #[.int .i64 0, .slice (some ⟨c0, 0, none⟩) 3 3]) rfl]
    refine zv_ u27 inf3 (cells := ints [1]) (by decide) (by decide) (by simp [Instr.fill, madeCells, Value.cells, rng1, ints]) rfl fun c1 v1 _ _ g1 _ r1 => ?_
    have i1 : IntsF (fun b => wA.heap.size ≤ b) v1 (some ⟨c1, 0, none⟩) [1] := (IntsF.of_own (r1 _ (Nat.le_refl _))).mono fun b hb => Nat.le_trans G0.size hb.1
    have G1 := zf_ G0 g1
    rw [ztb_ (cells := #[.int .i64 0, .slice (some ⟨c1, 0, none⟩) 1 1]) rfl]
    refine zv_ u27 inf3 (cells := ints [-1]) (by decide) (by decide) (by simp [Instr.fill, madeCells, Value.cells, rng1, ints]) rfl fun c2 v2 _ _ g2 _ r2 => ?_
    have i2 : IntsF (fun b => wA.heap.size ≤ b) v2 (some ⟨c2, 0, none⟩) [-1] := (IntsF.of_own (r2 _ (Nat.le_refl _))).mono fun b hb => Nat.le_trans G1.size hb.1
    have G2 := zf_ G1 g2
    rw [ztb_ (cells := #[.int .i64 1, .slice (some ⟨c2, 0, none⟩) 1 1]) rfl]
    refine zv_ u27 inf3 (cells := ints [-2, 0, -2]) (by decide) (by decide) (by simp [Instr.fill, madeCells, Value.cells, rng3, ints]) rfl fun c3 v3 _ _ g3 _ r3 => ?_
    have i3 : IntsF (fun b => wA.heap.size ≤ b) v3 (some ⟨c3, 0, none⟩) [-2, 0, -2] := (IntsF.of_own (r3 _ (Nat.le_refl _))).mono fun b hb => Nat.le_trans G2.size hb.1
    have G3 := zf_ G2 g3
    rw [ztb_ (cells := #[.int .i64 1, .slice (some ⟨c3, 0, none⟩) 3 3]) rfl]
    refine zv_ u24 zvb_ (cells := [.int .i64 0, .slice (some ⟨c0, 0, none⟩) 3 3, .int .i64 0, .slice (some ⟨c1, 0, none⟩) 1 1, .int .i64 1, .slice (some ⟨c2, 0, none⟩) 1 1, .int .i64 1, .slice (some ⟨c3, 0, none⟩) 3 3]) (by decide) (by decide) (by simp [Instr.fill, madeCells, Value.cells, rng8]) rfl fun bX wB hX1 _ gB _ rB => ?_
    rw [bd26 (cells := #[.int .i64 2, .int .i64 3, .slice (some ⟨bX, 0, none⟩) 4 4]) rfl]
    have j0 := ((ltF (((i0.gr g1).gr g2).gr g3)).gr gB).mono (E := fun q => wA.heap.size ≤ q ∧ blk (some (⟨bX, 0, none⟩ : Addr)) ≠ some q) fun q hq => ⟨hq.1, fun e => absurd hq.2 (by have := Option.some.inj (show some bX = some q from e); omega)⟩
    have j1 := ((ltF ((i1.gr g2).gr g3)).gr gB).mono (E := fun q => wA.heap.size ≤ q ∧ blk (some (⟨bX, 0, none⟩ : Addr)) ≠ some q) fun q hq => ⟨hq.1, fun e => absurd hq.2 (by have := Option.some.inj (show some bX = some q from e); omega)⟩
    have j2 := ((ltF (i2.gr g3)).gr gB).mono (E := fun q => wA.heap.size ≤ q ∧ blk (some (⟨bX, 0, none⟩ : Addr)) ≠ some q) fun q hq => ⟨hq.1, fun e => absurd hq.2 (by have := Option.some.inj (show some bX = some q from e); omega)⟩
    have j3 := ((ltF i3).gr gB).mono (E := fun q => wA.heap.size ≤ q ∧ blk (some (⟨bX, 0, none⟩ : Addr)) ≠ some q) fun q hq => ⟨hq.1, fun e => absurd hq.2 (by have := Option.some.inj (show some bX = some q from e); omega)⟩
    exact fin wB bX 4 ⟨2, 3, [(0, [0, -3, 1]), (0, [1]), (1, [-1]), (1, [-2, 0, -2])]⟩ _ ⟨⟨by decide, by decide⟩, ⟨by decide, by decide⟩, by decide, by decide, by decide⟩ (zf_ G3 gB) (rB _ G3.size) (.cons (r := (0, [0, -3, 1])) (Nat.le_refl _) j0 (.cons (r := (0, [1])) (Nat.le_refl _) j1 (.cons (r := (1, [-1])) (Nat.le_refl _) j2 (.cons (r := (1, [-2, 0, -2])) (Nat.le_refl _) j3 .nil))))
  · simp only [show ¬ (((3 : Nat) : Int) = 0) from by omega, show ¬ (((3 : Nat) : Int) = 1) from by omega, show ¬ (((3 : Nat) : Int) = 2) from by omega, show (((3 : Nat) : Int) = 3) from by omega, decide_true, decide_false, zq18, zq19, zq20, zq21, zq22, zq23, zq24, zq25, zq26, zq27, zq28, zq4, zq3, zq1, zq2, zq0, zq29, zq30, zq14, zq15, zq16, zq17, zq13, zq10, zq12, zq11, zq7, zq5, zq6, zq9, zq8, zq31, zq32, ite_T, ite_F, zq33, zq34, zq35, Nat.reduceEqDiff, len22, len24, fa26_0, fa26_1, fa26_2, len27, len35, fa86_0, fa86_1, fa86_2, fa97_0, fa97_1, fa106_0, fa106_1, fa145_0, fa145_1, fa145_2, fa145_3, fa145_4, len192]
    refine zv_ u27 inf3 (cells := ints [-1, 1]) (by decide) (by decide) (by simp [Instr.fill, madeCells, Value.cells, rng2, ints]) rfl fun c0 v0 _ _ g0 _ r0 => ?_
    have i0 : IntsF (fun b => wA.heap.size ≤ b) v0 (some ⟨c0, 0, none⟩) [-1, 1] := (IntsF.of_own (r0 _ (Nat.le_refl _))).mono fun b hb => Nat.le_trans (Gr.refl wA).size hb.1
    have G0 := g0
    rw [ztb_ (cells := #[.int .i64 0, .slice (some ⟨c0, 0, none⟩) 2 2]) rfl]
    refine zv_ u27 inf3 (cells := ints [-2, 1]) (by decide) (by decide) (by simp [Instr.fill, madeCells, Value.cells, rng2, ints]) rfl fun c1 v1 _ _ g1 _ r1 => ?_
    have i1 : IntsF (fun b => wA.heap.size ≤ b) v1 (some ⟨c1, 0, none⟩) [-2, 1] := (IntsF.of_own (r1 _ (Nat.le_refl _))).mono fun b hb => Nat.le_trans G0.size hb.1
    have G1 := zf_ G0 g1
    rw [ztb_ (cells := #[.int .i64 1, .slice (some ⟨c1, 0, none⟩) 2 2]) rfl]
    refine zv_ u27 inf3 (cells := ints [-2]) (by decide) (by decide) (by simp [Instr.fill, madeCells, Value.cells, rng1, ints]) rfl fun c2 v2 _ _ g2 _ r2 => ?_
    have i2 : IntsF (fun b => wA.heap.size ≤ b) v2 (some ⟨c2, 0, none⟩) [-2] := (IntsF.of_own (r2 _ (Nat.le_refl _))).mono fun b hb => Nat.le_trans G1.size hb.1
    have G2 := zf_ G1 g2
    rw [ztb_ (cells := #[.int .i64 1, .slice (some ⟨c2, 0, none⟩) 1 1]) rfl]
    rw [ztb_ (cells := #[.int .i64 1, .slice none 0 0]) rfl]
    refine zv_ u24 zvb_ (cells := [.int .i64 0, .slice (some ⟨c0, 0, none⟩) 2 2, .int .i64 1, .slice (some ⟨c1, 0, none⟩) 2 2, .int .i64 1, .slice (some ⟨c2, 0, none⟩) 1 1, .int .i64 1, .slice none 0 0]) (by decide) (by decide) (by simp [Instr.fill, madeCells, Value.cells, rng8]) rfl fun bX wB hX1 _ gB _ rB => ?_
    rw [bd26 (cells := #[.int .i64 2, .int .i64 2, .slice (some ⟨bX, 0, none⟩) 4 4]) rfl]
    have j0 := ((ltF ((i0.gr g1).gr g2)).gr gB).mono (E := fun q => wA.heap.size ≤ q ∧ blk (some (⟨bX, 0, none⟩ : Addr)) ≠ some q) fun q hq => ⟨hq.1, fun e => absurd hq.2 (by have := Option.some.inj (show some bX = some q from e); omega)⟩
    have j1 := ((ltF (i1.gr g2)).gr gB).mono (E := fun q => wA.heap.size ≤ q ∧ blk (some (⟨bX, 0, none⟩ : Addr)) ≠ some q) fun q hq => ⟨hq.1, fun e => absurd hq.2 (by have := Option.some.inj (show some bX = some q from e); omega)⟩
    have j2 := ((ltF i2).gr gB).mono (E := fun q => wA.heap.size ≤ q ∧ blk (some (⟨bX, 0, none⟩ : Addr)) ≠ some q) fun q hq => ⟨hq.1, fun e => absurd hq.2 (by have := Option.some.inj (show some bX = some q from e); omega)⟩
    exact fin wB bX 4 ⟨2, 2, [(0, [-1, 1]), (1, [-2, 1]), (1, [-2]), (1, [])]⟩ _ ⟨⟨by decide, by decide⟩, ⟨by decide, by decide⟩, by decide, by decide, by decide⟩ (zf_ G2 gB) (rB _ G2.size) (.cons (r := (0, [-1, 1])) (Nat.le_refl _) j0 (.cons (r := (1, [-2, 1])) (Nat.le_refl _) j1 (.cons (r := (1, [-2])) (Nat.le_refl _) j2 (.cons (r := (1, [])) (Nat.le_refl _) (nilF _ _) .nil))))
  · simp only [show ¬ (((4 : Nat) : Int) = 0) from by omega, show ¬ (((4 : Nat) : Int) = 1) from by omega, show ¬ (((4 : Nat) : Int) = 2) from by omega, show ¬ (((4 : Nat) : Int) = 3) from by omega, show (((4 : Nat) : Int) = 4) from by omega, decide_true, decide_false, zq18, zq19, zq20, zq21, zq22, zq23, zq24, zq25, zq26, zq27, zq28, zq4, zq3, zq1, zq2, zq0, zq29, zq30, zq14, zq15, zq16, zq17, zq13, zq10, zq12, zq11, zq7, zq5, zq6, zq9, zq8, zq31, zq32, ite_T, ite_F, zq33, zq34, zq35, Nat.reduceEqDiff, len22, len24, fa26_0, fa26_1, fa26_2, len27, len35, fa86_0, fa86_1, fa86_2, fa97_0, fa97_1, fa106_0, fa106_1, fa145_0, fa145_1, fa145_2, fa145_3, fa145_4, len192]
    refine zv_ u27 inf3 (cells := ints [0]) (by decide) (by decide) (by simp [Instr.fill, madeCells, Value.cells, rng1, ints]) rfl fun c0 v0 _ _ g0 _ r0 => ?_
    have i0 : IntsF (fun b => wA.heap.size ≤ b) v0 (some ⟨c0, 0, none⟩) [0] := (IntsF.of_own (r0 _ (Nat.le_refl _))).mono fun b hb => Nat.le_trans (Gr.refl wA).size hb.1
    have G0 := g0
    rw [ztb_ (cells := #[.int .i64 0, .slice (some ⟨c0, 0, none⟩) 1 1]) rfl]
    refine zv_ u27 inf3 (cells := ints [1]) (by decide) (by decide) (by simp [Instr.fill, madeCells, Value.cells, rng1, ints]) rfl fun c1 v1 _ _ g1 _ r1 => ?_
    have i1 : IntsF (fun b => wA.heap.size ≤ b) v1 (some ⟨c1, 0, none⟩) [1] := (IntsF.of_own (r1 _ (Nat.le_refl _))).mono fun b hb => Nat.le_trans G0.size hb.1
    have G1 := zf_ G0 g1
    rw [ztb_ (cells := #[.int .i64 0, .slice (some ⟨c1, 0, none⟩) 1 1]) rfl]
    refine zv_ u27 inf3 (cells := ints [0, 1]) (by decide) (by decide) (by simp [Instr.fill, madeCells, Value.cells, rng2, ints]) rfl fun c2 v2 _ _ g2 _ r2 => ?_
    have i2 : IntsF (fun b => wA.heap.size ≤ b) v2 (some ⟨c2, 0, none⟩) [0, 1] := (IntsF.of_own (r2 _ (Nat.le_refl _))).mono fun b hb => Nat.le_trans G1.size hb.1
    have G2 := zf_ G1 g2
    rw [ztb_ (cells := #[.int .i64 1, .slice (some ⟨c2, 0, none⟩) 2 2]) rfl]
    refine zv_ u27 inf3 (cells := ints [-1]) (by decide) (by decide) (by simp [Instr.fill, madeCells, Value.cells, rng1, ints]) rfl fun c3 v3 _ _ g3 _ r3 => ?_
    have i3 : IntsF (fun b => wA.heap.size ≤ b) v3 (some ⟨c3, 0, none⟩) [-1] := (IntsF.of_own (r3 _ (Nat.le_refl _))).mono fun b hb => Nat.le_trans G2.size hb.1
    have G3 := zf_ G2 g3
    rw [ztb_ (cells := #[.int .i64 1, .slice (some ⟨c3, 0, none⟩) 1 1]) rfl]
    rw [ztb_ (cells := #[.int .i64 1, .slice none 0 0]) rfl]
    refine zv_ u24 zvb_ (cells := [.int .i64 0, .slice (some ⟨c0, 0, none⟩) 1 1, .int .i64 0, .slice (some ⟨c1, 0, none⟩) 1 1, .int .i64 1, .slice (some ⟨c2, 0, none⟩) 2 2, .int .i64 1, .slice (some ⟨c3, 0, none⟩) 1 1, .int .i64 1, .slice none 0 0]) (by decide) (by decide) (by simp [Instr.fill, madeCells, Value.cells, rng10]) rfl fun bX wB hX1 _ gB _ rB => ?_
    rw [bd26 (cells := #[.int .i64 2, .int .i64 1, .slice (some ⟨bX, 0, none⟩) 5 5]) rfl]
    have j0 := ((ltF (((i0.gr g1).gr g2).gr g3)).gr gB).mono (E := fun q => wA.heap.size ≤ q ∧ blk (some (⟨bX, 0, none⟩ : Addr)) ≠ some q) fun q hq => ⟨hq.1, fun e => absurd hq.2 (by have := Option.some.inj (show some bX = some q from e); omega)⟩
    have j1 := ((ltF ((i1.gr g2).gr g3)).gr gB).mono (E := fun q => wA.heap.size ≤ q ∧ blk (some (⟨bX, 0, none⟩ : Addr)) ≠ some q) fun q hq => ⟨hq.1, fun e => absurd hq.2 (by have := Option.some.inj (show some bX = some q from e); omega)⟩
    have j2 := ((ltF (i2.gr g3)).gr gB).mono (E := fun q => wA.heap.size ≤ q ∧ blk (some (⟨bX, 0, none⟩ : Addr)) ≠ some q) fun q hq => ⟨hq.1, fun e => absurd hq.2 (by have := Option.some.inj (show some bX = some q from e); omega)⟩
    have j3 := ((ltF i3).gr gB).mono (E := fun q => wA.heap.size ≤ q ∧ blk (some (⟨bX, 0, none⟩ : Addr)) ≠ some q) fun q hq => ⟨hq.1, fun e => absurd hq.2 (by have := Option.some.inj (show some bX = some q from e); omega)⟩
    exact fin wB bX 5 ⟨2, 1, [(0, [0]), (0, [1]), (1, [0, 1]), (1, [-1]), (1, [])]⟩ _ ⟨⟨by decide, by decide⟩, ⟨by decide, by decide⟩, by decide, by decide, by decide⟩ (zf_ G3 gB) (rB _ G3.size) (.cons (r := (0, [0])) (Nat.le_refl _) j0 (.cons (r := (0, [1])) (Nat.le_refl _) j1 (.cons (r := (1, [0, 1])) (Nat.le_refl _) j2 (.cons (r := (1, [-1])) (Nat.le_refl _) j3 (.cons (r := (1, [])) (Nat.le_refl _) (nilF _ _) .nil)))))
  · simp only [show ¬ (((5 : Nat) : Int) = 0) from by omega, show ¬ (((5 : Nat) : Int) = 1) from by omega, show ¬ (((5 : Nat) : Int) = 2) from by omega, show ¬ (((5 : Nat) : Int) = 3) from by omega, show ¬ (((5 : Nat) : Int) = 4) from by omega, show (((5 : Nat) : Int) = 5) from by omega, decide_true, decide_false, zq18, zq19, zq20, zq21, zq22, zq23, zq24, zq25, zq26, zq27, zq28, zq4, zq3, zq1, zq2, zq0, zq29, zq30, zq14, zq15, zq16, zq17, zq13, zq10, zq12, zq11, zq7, zq5, zq6, zq9, zq8, zq31, zq32, ite_T, ite_F, zq33, zq34, zq35, Nat.reduceEqDiff, len22, len24, fa26_0, fa26_1, fa26_2, len27, len35, fa86_0, fa86_1, fa86_2, fa97_0, fa97_1, fa106_0, fa106_1, fa145_0, fa145_1, fa145_2, fa145_3, fa145_4, len192]
    refine zv_ u27 inf3 (cells := ints [-1, 0, -1]) (by decide) (by decide) (by simp [Instr.fill, madeCells, Value.cells, rng3, ints]) rfl fun c0 v0 _ _ g0 _ r0 => ?_
    have i0 : IntsF (fun b => wA.heap.size ≤ b) v0 (some ⟨c0, 0, none⟩) [-1, 0, -1] := (IntsF.of_own (r0 _ (Nat.le_refl _))).mono fun b hb => Nat.le_trans (Gr.refl wA).size hb.1
    have G0 := g0
    rw [ztb_ (cells := #[.int .i64 0, .slice (some ⟨c0, 0, none⟩) 3 3]) rfl]
    refine zv_ u27 inf3 (cells := ints [-2, 0, -2]) (by decide) (by decide) (by simp [Instr.fill, madeCells, Value.cells, rng3, ints]) rfl fun c1 v1 _ _ g1 _ r1 => ?_
    have i1 : IntsF (fun b => wA.heap.size ≤ b) v1 (some ⟨c1, 0, none⟩) [-2, 0, -2] := (IntsF.of_own (r1 _ (Nat.le_refl _))).mono fun b hb => Nat.le_trans G0.size hb.1
    have G1 := zf_ G0 g1
    rw [ztb_ (cells := #[.int .i64 0, .slice (some ⟨c1, 0, none⟩) 3 3]) rfl]
    refine zv_ u27 inf3 (cells := ints [-1]) (by decide) (by decide) (by simp [Instr.fill, madeCells, Value.cells, rng1, ints]) rfl fun c2 v2 _ _ g2 _ r2 => ?_
    have i2 : IntsF (fun b => wA.heap.size ≤ b) v2 (some ⟨c2, 0, none⟩) [-1] := (IntsF.of_own (r2 _ (Nat.le_refl _))).mono fun b hb => Nat.le_trans G1.size hb.1
    have G2 := zf_ G1 g2
    rw [ztb_ (cells := #[.int .i64 0, .slice (some ⟨c2, 0, none⟩) 1 1]) rfl]
    refine zv_ u27 inf3 (cells := ints [-2]) (by decide) (by decide) (by simp [Instr.fill, madeCells, Value.cells, rng1, ints]) rfl fun c3 v3 _ _ g3 _ r3 => ?_
    have i3 : IntsF (fun b => wA.heap.size ≤ b) v3 (some ⟨c3, 0, none⟩) [-2] := (IntsF.of_own (r3 _ (Nat.le_refl _))).mono fun b hb => Nat.le_trans G2.size hb.1
    have G3 := zf_ G2 g3
    rw [ztb_ (cells := #[.int .i64 0, .slice (some ⟨c3, 0, none⟩) 1 1]) rfl]
    rw [ztb_ (cells := #[.int .i64 0, .slice none 0 0]) rfl]
    refine zv_ u24 zvb_ (cells := [.int .i64 0, .slice (some ⟨c0, 0, none⟩) 3 3, .int .i64 0, .slice (some ⟨c1, 0, none⟩) 3 3, .int .i64 0, .slice (some ⟨c2, 0, none⟩) 1 1, .int .i64 0, .slice (some ⟨c3, 0, none⟩) 1 1, .int .i64 0, .slice none 0 0]) (by decide) (by decide) (by simp [Instr.fill, madeCells, Value.cells, rng10]) rfl fun bX wB hX1 _ gB _ rB => ?_
    rw [bd26 (cells := #[.int .i64 1, .int .i64 2, .slice (some ⟨bX, 0, none⟩) 5 5]) rfl]
    have j0 := ((ltF (((i0.gr g1).gr g2).gr g3)).gr gB).mono (E := fun q => wA.heap.size ≤ q ∧ blk (some (⟨bX, 0, none⟩ : Addr)) ≠ some q) fun q hq => ⟨hq.1, fun e => absurd hq.2 (by have := Option.some.inj (show some bX = some q from e); omega)⟩
    have j1 := ((ltF ((i1.gr g2).gr g3)).gr gB).mono (E := fun q => wA.heap.size ≤ q ∧ blk (some (⟨bX, 0, none⟩ : Addr)) ≠ some q) fun q hq => ⟨hq.1, fun e => absurd hq.2 (by have := Option.some.inj (show some bX = some q from e); omega)⟩
    have j2 := ((ltF (i2.gr g3)).gr gB).mono (E := fun q => wA.heap.size ≤ q ∧ blk (some (⟨bX, 0, none⟩ : Addr)) ≠ some q) fun q hq => ⟨hq.1, fun e => absurd hq.2 (by have := Option.some.inj (show some bX = some q from e); omega)⟩
    have j3 := ((ltF i3).gr gB).mono (E := fun q => wA.heap.size ≤ q ∧ blk (some (⟨bX, 0, none⟩ : Addr)) ≠ some q) fun q hq => ⟨hq.1, fun e => absurd hq.2 (by have := Option.some.inj (show some bX = some q from e); omega)⟩
    exact fin wB bX 5 ⟨1, 2, [(0, [-1, 0, -1]), (0, [-2, 0, -2]), (0, [-1]), (0, [-2]), (0, [])]⟩ _ ⟨⟨by decide, by decide⟩, ⟨by decide, by decide⟩, by decide, by decide, by decide⟩ (zf_ G3 gB) (rB _ G3.size) (.cons (r := (0, [-1, 0, -1])) (Nat.le_refl _) j0 (.cons (r := (0, [-2, 0, -2])) (Nat.le_refl _) j1 (.cons (r := (0, [-1])) (Nat.le_refl _) j2 (.cons (r := (0, [-2])) (Nat.le_refl _) j3 (.cons (r := (0, [])) (Nat.le_refl _) (nilF _ _) .nil)))))
  · simp only [show ¬ (((6 : Nat) : Int) = 0) from by omega, show ¬ (((6 : Nat) : Int) = 1) from by omega, show ¬ (((6 : Nat) : Int) = 2) from by omega, show ¬ (((6 : Nat) : Int) = 3) from by omega, show ¬ (((6 : Nat) : Int) = 4) from by omega, show ¬ (((6 : Nat) : Int) = 5) from by omega, show (((6 : Nat) : Int) = 6) from by omega, decide_true, decide_false, zq18, zq19, zq20, zq21, zq22, zq23, zq24, zq25, zq26, zq27, zq28, zq4, zq3, zq1, zq2, zq0, zq29, zq30, zq14, zq15, zq16, zq17, zq13, zq10, zq12, zq11, zq7, zq5, zq6, zq9, zq8, zq31, zq32, ite_T, ite_F, zq33, zq34, zq35, Nat.reduceEqDiff, len22, len24, fa26_0, fa26_1, fa26_2, len27, len35, fa86_0, fa86_1, fa86_2, fa97_0, fa97_1, fa106_0, fa106_1, fa145_0, fa145_1, fa145_2, fa145_3, fa145_4, len192]
    refine zv_ u27 inf3 (cells := ints [1, 2]) (by decide) (by decide) (by simp [Instr.fill, madeCells, Value.cells, rng2, ints]) rfl fun c0 v0 _ _ g0 _ r0 => ?_
    have i0 : IntsF (fun b => wA.heap.size ≤ b) v0 (some ⟨c0, 0, none⟩) [1, 2] := (IntsF.of_own (r0 _ (Nat.le_refl _))).mono fun b hb => Nat.le_trans (Gr.refl wA).size hb.1
    have G0 := g0
    rw [ztb_ (cells := #[.int .i64 0, .slice (some ⟨c0, 0, none⟩) 2 2]) rfl]
    refine zv_ u27 inf3 (cells := ints [-1, 1]) (by decide) (by decide) (by simp [Instr.fill, madeCells, Value.cells, rng2, ints]) rfl fun c1 v1 _ _ g1 _ r1 => ?_
    have i1 : IntsF (fun b => wA.heap.size ≤ b) v1 (some ⟨c1, 0, none⟩) [-1, 1] := (IntsF.of_own (r1 _ (Nat.le_refl _))).mono fun b hb => Nat.le_trans G0.size hb.1
    have G1 := zf_ G0 g1
    rw [ztb_ (cells := #[.int .i64 1, .slice (some ⟨c1, 0, none⟩) 2 2]) rfl]
    rw [ztb_ (cells := #[.int .i64 1, .slice none 0 0]) rfl]
    refine zv_ u27 inf3 (cells := ints [-2, 2]) (by decide) (by decide) (by simp [Instr.fill, madeCells, Value.cells, rng2, ints]) rfl fun c3 v3 _ _ g3 _ r3 => ?_
    have i3 : IntsF (fun b => wA.heap.size ≤ b) v3 (some ⟨c3, 0, none⟩) [-2, 2] := (IntsF.of_own (r3 _ (Nat.le_refl _))).mono fun b hb => Nat.le_trans G1.size hb.1
    have G3 := zf_ G1 g3
    rw [ztb_ (cells := #[.int .i64 2, .slice (some ⟨c3, 0, none⟩) 2 2]) rfl]
    rw [ztb_ (cells := #[.int .i64 2, .slice none 0 0]) rfl]
    refine zv_ u24 zvb_ (cells := [.int .i64 0, .slice (some ⟨c0, 0, none⟩) 2 2, .int .i64 1, .slice (some ⟨c1, 0, none⟩) 2 2, .int .i64 1, .slice none 0 0, .int .i64 2, .slice (some ⟨c3, 0, none⟩) 2 2, .int .i64 2, .slice none 0 0]) (by decide) (by decide) (by simp [Instr.fill, madeCells, Value.cells, rng10]) rfl fun bX wB hX1 _ gB _ rB => ?_
    rw [bd26 (cells := #[.int .i64 3, .int .i64 2, .slice (some ⟨bX, 0, none⟩) 5 5]) rfl]
    have j0 := ((ltF ((i0.gr g1).gr g3)).gr gB).mono (E := fun q => wA.heap.size ≤ q ∧ blk (some (⟨bX, 0, none⟩ : Addr)) ≠ some q) fun q hq => ⟨hq.1, fun e => absurd hq.2 (by have := Option.some.inj (show some bX = some q from e); omega)⟩
    have j1 := ((ltF (i1.gr g3)).gr gB).mono (E := fun q => wA.heap.size ≤ q ∧ blk (some (⟨bX, 0, none⟩ : Addr)) ≠ some q) fun q hq => ⟨hq.1, fun e => absurd hq.2 (by have := Option.some.inj (show some bX = some q from e); omega)⟩
    have j3 := ((ltF i3).gr gB).mono (E := fun q => wA.heap.size ≤ q ∧ blk (some (⟨bX, 0, none⟩ : Addr)) ≠ some q) fun q hq => ⟨hq.1, fun e => absurd hq.2 (by have := Option.some.inj (show some bX = some q from e); omega)⟩
    exact fin wB bX 5 ⟨3, 2, [(0, [1, 2]), (1, [-1, 1]), (1, []), (2, [-2, 2]), (2, [])]⟩ _ ⟨⟨by decide, by decide⟩, ⟨by decide, by decide⟩, by decide, by decide, by decide⟩ (zf_ G3 gB) (rB _ G3.size) (.cons (r := (0, [1, 2])) (Nat.le_refl _) j0 (.cons (r := (1, [-1, 1])) (Nat.le_refl _) j1 (.cons (r := (1, [])) (Nat.le_refl _) (nilF _ _) (.cons (r := (2, [-2, 2])) (Nat.le_refl _) j3 (.cons (r := (2, [])) (Nat.le_refl _) (nilF _ _) .nil)))))
  · simp only [show ¬ (((7 : Nat) : Int) = 0) from by omega, show ¬ (((7 : Nat) : Int) = 1) from by omega, show ¬ (((7 : Nat) : Int) = 2) from by omega, show ¬ (((7 : Nat) : Int) = 3) from by omega, show ¬ (((7 : Nat) : Int) = 4) from by omega, show ¬ (((7 : Nat) : Int) = 5) from by omega, show ¬ (((7 : Nat) : Int) = 6) from by omega, decide_true, decide_false, zq18, zq19, zq20, zq21, zq22, zq23, zq24, zq25, zq26, zq27, zq28, zq4, zq3, zq1, zq2, zq0, zq29, zq30, zq14, zq15, zq16, zq17, zq13, zq10, zq12, zq11, zq7, zq5, zq6, zq9, zq8, zq31, zq32, ite_T, ite_F, zq33, zq34, zq35, Nat.reduceEqDiff, len22, len24, fa26_0, fa26_1, fa26_2, len27, len35, fa86_0, fa86_1, fa86_2, fa97_0, fa97_1, fa106_0, fa106_1, fa145_0, fa145_1, fa145_2, fa145_3, fa145_4, len192]
    refine zv_ u27 inf3 (cells := ints [0, 0]) (by decide) (by decide) (by simp [Instr.fill, madeCells, Value.cells, rng2, ints]) rfl fun c0 v0 _ _ g0 _ r0 => ?_
    have i0 : IntsF (fun b => wA.heap.size ≤ b) v0 (some ⟨c0, 0, none⟩) [0, 0] := (IntsF.of_own (r0 _ (Nat.le_refl _))).mono fun b hb => Nat.le_trans (Gr.refl wA).size hb.1
    have G0 := g0
    rw [ztb_ (cells := #[.int .i64 0, .slice (some ⟨c0, 0, none⟩) 2 2]) rfl]
    refine zv_ u27 inf3 (cells := ints [-1]) (by decide) (by decide) (by simp [Instr.fill, madeCells, Value.cells, rng1, ints]) rfl fun c1 v1 _ _ g1 _ r1 => ?_
    have i1 : IntsF (fun b => wA.heap.size ≤ b) v1 (some ⟨c1, 0, none⟩) [-1] := (IntsF.of_own (r1 _ (Nat.le_refl _))).mono fun b hb => Nat.le_trans G0.size hb.1
    have G1 := zf_ G0 g1
    rw [ztb_ (cells := #[.int .i64 0, .slice (some ⟨c1, 0, none⟩) 1 1]) rfl]
    refine zv_ u27 inf3 (cells := ints [-2, 1]) (by decide) (by decide) (by simp [Instr.fill, madeCells, Value.cells, rng2, ints]) rfl fun c2 v2 _ _ g2 _ r2 => ?_
    have i2 : IntsF (fun b => wA.heap.size ≤ b) v2 (some ⟨c2, 0, none⟩) [-2, 1] := (IntsF.of_own (r2 _ (Nat.le_refl _))).mono fun b hb => Nat.le_trans G1.size hb.1
    have G2 := zf_ G1 g2
    rw [ztb_ (cells := #[.int .i64 1, .slice (some ⟨c2, 0, none⟩) 2 2]) rfl]
    refine zv_ u24 zvb_ (cells := [.int .i64 0, .slice (some ⟨c0, 0, none⟩) 2 2, .int .i64 0, .slice (some ⟨c1, 0, none⟩) 1 1, .int .i64 1, .slice (some ⟨c2, 0, none⟩) 2 2]) (by decide) (by decide) (by simp [Instr.fill, madeCells, Value.cells, rng6]) rfl fun bX wB hX1 _ gB _ rB => ?_
    rw [bd26 (cells := #[.int .i64 2, .int .i64 2, .slice (some ⟨bX, 0, none⟩) 3 3]) rfl]
    have j0 := ((ltF ((i0.gr g1).gr g2)).gr gB).mono (E := fun q => wA.heap.size ≤ q ∧ blk (some (⟨bX, 0, none⟩ : Addr)) ≠ some q) fun q hq => ⟨hq.1, fun e => absurd hq.2 (by have := Option.some.inj (show some bX = some q from e); omega)⟩
    have j1 := ((ltF (i1.gr g2)).gr gB).mono (E := fun q => wA.heap.size ≤ q ∧ blk (some (⟨bX, 0, none⟩ : Addr)) ≠ some q) fun q hq => ⟨hq.1, fun e => absurd hq.2 (by have := Option.some.inj (show some bX = some q from e); omega)⟩
    have j2 := ((ltF i2).gr gB).mono (E := fun q => wA.heap.size ≤ q ∧ blk (some (⟨bX, 0, none⟩ : Addr)) ≠ some q) fun q hq => ⟨hq.1, fun e => absurd hq.2 (by have := Option.some.inj (show some bX = some q from e); omega)⟩
    exact fin wB bX 3 ⟨2, 2, [(0, [0, 0]), (0, [-1]), (1, [-2, 1])]⟩ _ ⟨⟨by decide, by decide⟩, ⟨by decide, by decide⟩, by decide, by decide, by decide⟩ (zf_ G2 gB) (rB _ G2.size) (.cons (r := (0, [0, 0])) (Nat.le_refl _) j0 (.cons (r := (0, [-1])) (Nat.le_refl _) j1 (.cons (r := (1, [-2, 1])) (Nat.le_refl _) j2 .nil)))
end
section
variable {w0 w : World} {L E : List Thing} {bc N : Nat} {C : Option Addr} {cap : Nat} {bs : List Int} {k : Value → World → Prop}
theorem zfe_ {n m : Nat} {cv : Value} (H : Apt w0 w (cur bc cv n :: E)) (h : n ≤ m) : Apt w0 w (cur bc cv m :: E) := by
  obtain ⟨a, s, h0, h1, H⟩ := H.openCur 0 rfl
  simp only [List.set_cons_zero] at H
  have H := H.shutCur (N := m) 0 rfl h0 (by omega)
  simpa only [List.set_cons_zero] using H
theorem nilGow {e : Nat} (H : Apt w0 w L) : Apt w0 w (L ++ [gow e (fun _ => False) none 0 []]) :=
  H.add (Gr.refl w) _ (fun q hq => by rcases hq with hq | hq; cases hq; exact hq.elim) (fun q hq => by rcases hq with hq | hq; cases hq; exact hq.elim) (zrg_ (B := 0) ⟨[], Row.nil _ _ _ _, .nil⟩)
theorem set_same {i : Nat} {a : Thing} (hi : L[i]? = some a) : L.set i a = L := by
  obtain ⟨h, e⟩ := List.getElem?_eq_some_iff.1 hi
  rw [← e, List.set_getElem_self]
theorem forget (H : Apt w0 w L) (j : Nat) {a : Thing} (hj : L[j]? = some a) : Apt w0 w (L.set j emp) :=
  H.weaken j hj (fun q hq => hq.elim) (fun _ _ _ => trivial) fun _ _ _ _ => trivial
theorem blk_ad {w : World} {B e sz n c : Nat} {X : Option Addr} {cells : List Value} (h : Row w B e sz X n c cells) (hn : 0 < n) : blk X = some (ad X).block := by
  have := h.ptr hn
  conv => lhs; rw [this]
  rfl
set_option maxHeartbeats 1600000 in
theorem put2_c (H : Apt w0 w L) (i j : Nat) (hij : i ≠ j) {X Y : Option Addr} {c d : Nat} {rs : List RuleL} {r : RuleL} {ft : Nat → Prop} (hi : L[i]? = some (gth ft X c rs)) (hj : L[j]? = some (ows Y d r.2)) (hl : rs.length ≤ 1000)
    (hk : ∀ w' ft' X' c' rs', (rs' = rs ∧ 0 < rs.length ∨ rs' = rs ++ [r]) → Apt w0 w' ((L.set i (gth ft' X' c' rs')).set j emp) → k (.slice X' (List.length rs') c') w') :
    CallK Try.prog 150 [.slice X rs.length c, .agg #[.int .i64 r.1, .slice Y r.2.length d]] k w := by
  refine enter150 ?_
  unfold S150
  refine zub_ fun b1 w1 g1 hb1 hB1 => ?_
  have H := H.step g1
  have hR := (H.gow i hi).read
  have hY := H.own j hj
  simp only [zq18, zq19, zq20, zq21, zq22, zq23, zq24, zq25, zq26, zq27, zq28, zq4, zq3, zq1, zq2, zq0, zq29, zq30, zq14, zq15, zq16, zq17, zq13, zq10, zq12, zq11, zq7, zq5, zq6, zq9, zq8, zq31, zq32, ite_T, ite_F, zq33, zq34, zq35, Nat.reduceEqDiff, len22, len24, fa26_0, fa26_1, fa26_2, len27, len35, fa86_0, fa86_1, fa86_2, fa97_0, fa97_1, fa106_0, fa106_1, fa145_0, fa145_1, fa145_2, fa145_3, fa145_4, len192]
  refine zhb_ rs.length 0 (fun q f w' => q ≤ rs.length ∧ f 9 = .int .i64 q ∧ Gr w1 w') ⟨Nat.zero_le _, rfl, Gr.refl _⟩ ?_
  rintro q f w2 NN hag ⟨hq, h9, g2⟩ hN
  have f0 : f 0 = .slice X rs.length c := hag 0 (by decide)
  have f3 : f 3 = ptrv b1 := hag 3 (by decide)
  have f7 : f 7 = .slice X rs.length c := hag 7 (by decide)
  have f8 : f 8 = .int .i64 rs.length := hag 8 (by decide)
  simp only [f0, f3, f7, f8, h9, zq18, zq19, zq20, zq21, zq22, zq23, zq24, zq25, zq26, zq27, zq28, zq4, zq3, zq1, zq2, zq0, zq29, zq30, zq14, zq15, zq16, zq17, zq13, zq10, zq12, zq11, zq7, zq5, zq6, zq9, zq8, zq31, zq32, ite_T, ite_F, zq33, zq34, zq35, Nat.reduceEqDiff, len22, len24, fa26_0, fa26_1, fa26_2, len27, len35, fa86_0, fa86_1, fa86_2, fa97_0, fa97_1, fa106_0, fa106_1, fa145_0, fa145_1, fa145_2, fa145_3, fa145_4, len192]
  have H2 := H.step g2
  have hB2 := hB1.gr g2
  by_cases hlt : q < rs.length
  case neg =>
    simp only [show ¬ ((q : Int) < rs.length) from by omega, decide_false, zq18, zq19, zq20, zq21, zq22, zq23, zq24, zq25, zq26, zq27, zq28, zq4, zq3, zq1, zq2, zq0, zq29, zq30, zq14, zq15, zq16, zq17, zq13, zq10, zq12, zq11, zq7, zq5, zq6, zq9, zq8, zq31, zq32, ite_T, ite_F, zq33, zq34, zq35, Nat.reduceEqDiff, len22, len24, fa26_0, fa26_1, fa26_2, len27, len35, fa86_0, fa86_1, fa86_2, fa97_0, fa97_1, fa106_0, fa106_1, fa145_0, fa145_1, fa145_2, fa145_3, fa145_4, len192]
    rw [zw_ zdc_ zkb_ rfl hB2]
    refine zv_ u24 zvb_ (cells := [.int .i64 r.1, .slice Y r.2.length d]) (by decide) (by decide) (by simp [Instr.fill, madeCells, Value.cells, rng1, rng2]) rfl fun b5 w5 hb5 hb6 g5 _ r5 => ?_
    have H5 := H2.step g5
    obtain ⟨cells, hrow, hrc⟩ := H5.gow i hi
    have hY5 := H5.own j hj
    have hXY : ∀ q, blk Y = some q → blk X ≠ some q := fun q hq e => H5.two i j _ _ hij hi hj q (.inl e) hq
    refine zdg_ u24 zvb_ rfl (by decide) hrow (Row.src (r5 _ (Nat.le_refl _))) rfl (by intro v hv; simp at hv; rcases hv with rfl | rfl <;> rfl) (by omega) (by omega) (Nat.zero_le _) fun X' c' w' hr' hg hmv => ?_
    have hnew : ∀ q, q < w5.heap.size → blk X ≠ some q → blk X' ≠ some q := fun q hq hn e => by
      rcases hmv with h1 | h1
      · exact hn (h1 ▸ e)
      · have := h1 q e
        omega
    have hrc2 : RuleCells (fun q => (ft q ∨ blk Y = some q) ∧ blk X' ≠ some q) w' (rs ++ [r]) (cells ++ [.int .i64 r.1, .slice Y r.2.length d]) := by
      refine RuleCells.append ((hrc.lt.same fun q hq => hg.block q hq.2 fun e => hq.1.2 e.symm).mono fun q hq => ⟨.inl hq.1.1, hnew q hq.2 hq.1.2⟩) (.cons (Row.cap hY5).1 ?_ .nil)
      have hf : IntsF (fun q => blk Y = some q ∧ q < w5.heap.size) w5 Y r.2 := ⟨Own.ints hY5, fun hp => ⟨blk_ad hY5 hp, ((IntsF.of_own hY5).foot hp).2⟩⟩
      exact (hf.same' fun q hq => hg.block q hq.2 fun e => hXY q hq.1 e.symm).mono fun q hq => ⟨.inr hq.1, hnew q hq.2 (hXY q hq.1)⟩
    have hlen : rs.length + 1 = (rs ++ [r]).length := by simp
    rw [hlen] at hr' ⊢
    refine hk w' (fun q => ft q ∨ blk Y = some q) X' c' (rs ++ [r]) (.inr rfl) (H5.join (it := gth (fun q => ft q ∨ blk Y = some q) X' c' (rs ++ [r])) hij hi hj (gx_of hg fun q hq => .inl (.inl hq)) (fun q hq => ?_) (fun q hq => ?_) (zrg_ ⟨_, hr', hrc2⟩))
    · rcases hq with hq | hq | hq
      · rcases hmv with e | e
        · exact .inl (.inl (e ▸ hq))
        · exact .inr (.inr (e q hq))
      · exact .inl (.inr hq)
      · exact .inr (.inl hq)
    · rcases hq with hq | hq | hq
      · exact (hr'.ge hq).2
      · exact Nat.lt_of_lt_of_le ((H5.ok i _ hi).hi q (.inr hq)) hg.size
      · exact Nat.lt_of_lt_of_le ((H5.ok j _ hj).hi q hq) hg.size
  simp only [show ((q : Int) < rs.length) from by omega, decide_true, zq18, zq19, zq20, zq21, zq22, zq23, zq24, zq25, zq26, zq27, zq28, zq4, zq3, zq1, zq2, zq0, zq29, zq30, zq14, zq15, zq16, zq17, zq13, zq10, zq12, zq11, zq7, zq5, zq6, zq9, zq8, zq31, zq32, ite_T, ite_F, zq33, zq34, zq35, Nat.reduceEqDiff, len22, len24, fa26_0, fa26_1, fa26_2, len27, len35, fa86_0, fa86_1, fa86_2, fa97_0, fa97_1, fa106_0, fa106_1, fa145_0, fa145_1, fa145_2, fa145_3, fa145_4, len192]
  obtain ⟨Z, cz, t1, t2, t3, t4⟩ := hR.row q hlt
  refine rdi (ixn24 hR.ptr hlt) ?_
  rw [zjg_ zdc_ zkb_ (cs := [.int .i64 (rul rs q).1, .slice Z (rul rs q).2.length cz]) rfl (fun j hj => by
    match j, hj with
    | 0, _ => rw [zxc_, Nat.add_zero]; exact g2.cell t1
    | 1, _ => rw [zxc_]; exact g2.cell t2)]
  have G := Apt.nil w2
  refine zpb_ G zvb_ fun b4 w4 G => ?_
  simp only [List.nil_append] at G
  refine zdb_ G 0 rfl zkb_ rfl rfl rfl fun w5 G => ?_
  simp only [List.set_cons_zero] at G
  rw [zw_ zdc_ zkb_ rfl (hB2.gr G.gr), zw_ zdc_ zkb_ rfl (G.box 0 rfl)]
  refine zgi_ (F := fun _ => True) (E := fun _ => True) (r := r) (q := rul rs q) ⟨Y, d, rfl, (Row.cap hY).1, ⟨(Own.ints hY).gr (zf_ g2 G.gr), fun _ => trivial⟩⟩ ⟨Z, cz, rfl, t3, (t4.gr (zf_ g2 G.gr)).mono fun _ _ => trivial⟩ fun w6 g6 => ?_
  have g26 := zf_ g2 (zf_ G.gr g6)
  by_cases he : r = rul rs q
  · rw [decide_eq_true he]
    simp only [zq18, zq19, zq20, zq21, zq22, zq23, zq24, zq25, zq26, zq27, zq28, zq4, zq3, zq1, zq2, zq0, zq29, zq30, zq14, zq15, zq16, zq17, zq13, zq10, zq12, zq11, zq7, zq5, zq6, zq9, zq8, zq31, zq32, ite_T, ite_F, zq33, zq34, zq35, Nat.reduceEqDiff, len22, len24, fa26_0, fa26_1, fa26_2, len27, len35, fa86_0, fa86_1, fa86_2, fa97_0, fa97_1, fa106_0, fa106_1, fa145_0, fa145_1, fa145_2, fa145_3, fa145_4, len192]
    have H6 := forget (H.step g26) j hj
    have := hk w6 ft X c rs (.inl ⟨rfl, by omega⟩)
    rw [set_same hi] at this
    exact this H6
  · rw [decide_eq_false he]
    simp only [zq18, zq19, zq20, zq21, zq22, zq23, zq24, zq25, zq26, zq27, zq28, zq4, zq3, zq1, zq2, zq0, zq29, zq30, zq14, zq15, zq16, zq17, zq13, zq10, zq12, zq11, zq7, zq5, zq6, zq9, zq8, zq31, zq32, ite_T, ite_F, zq33, zq34, zq35, Nat.reduceEqDiff, len22, len24, fa26_0, fa26_1, fa26_2, len27, len35, fa86_0, fa86_1, fa86_2, fa97_0, fa97_1, fa106_0, fa106_1, fa145_0, fa145_1, fa145_2, fa145_3, fa145_4, len192]
    rw [zm_ (by omega) (by omega)]
    exact hN _ _ hlt ⟨hlt, rfl, g26⟩
end
section
variable {w0 w : World} {E : List Thing} {bc N : Nat} {C : Option Addr} {cap : Nat} {bs : List Int} {k : Value → World → Prop}
set_option maxHeartbeats 6400000 in
theorem grammar_c (H : Apt w0 w (cur bc (.slice C bs.length cap) N :: E)) (hC : Byts w0 C bs) (hN : N ≤ 1000000) (hk : ∀ w' gm ft X c, Drawn 100 gm → Apt w0 w' (cur bc (.slice C bs.length cap) (N + 500) :: gth ft X c gm.rules :: E) → k (.agg #[.int .i64 gm.nons, .int .i64 gm.toks, .slice X gm.rules.length c]) w') :
    CallK Try.prog 116 [ptrv bc] k w := by
  refine enter116 ?_
  unfold S116
  refine zpb_ H inf26 fun b1 w1 H => ?_
  have H := H.insert 1
  simp only [List.take_succ_cons, List.take_zero, List.drop_succ_cons, List.drop_zero, List.nil_append, List.cons_append] at H
  refine one_c H 0 rfl hC (by omega) (by omega) fun w2 b H => ?_
  simp only [List.set_cons_zero] at H
  cases b
  case true =>
    simp only [zq18, zq19, zq20, zq21, zq22, zq23, zq24, zq25, zq26, zq27, zq28, zq4, zq3, zq1, zq2, zq0, zq29, zq30, zq14, zq15, zq16, zq17, zq13, zq10, zq12, zq11, zq7, zq5, zq6, zq9, zq8, zq31, zq32, ite_T, ite_F, zq33, zq34, zq35, Nat.reduceEqDiff, len22, len24, fa26_0, fa26_1, fa26_2, len27, len35, fa86_0, fa86_1, fa86_2, fa97_0, fa97_1, fa106_0, fa106_1, fa145_0, fa145_1, fa145_2, fa145_3, fa145_4, len192]
    refine known_c H hC (by omega) fun w3 gm ft X c hd H => ?_
    refine zdb_ H 2 rfl sz26 rfl rfl rfl fun w4 H => ?_
    simp only [List.set_cons_zero, List.set_cons_succ] at H
    rw [ztc_, zw_ zmb_ sz26 rfl (H.box 2 rfl)]
    have H := H.erase 2
    simp only [List.eraseIdx_cons_zero, List.eraseIdx_cons_succ] at H
    exact hk w4 gm ft X c hd (zfe_ H (by omega))
  simp only [zq18, zq19, zq20, zq21, zq22, zq23, zq24, zq25, zq26, zq27, zq28, zq4, zq3, zq1, zq2, zq0, zq29, zq30, zq14, zq15, zq16, zq17, zq13, zq10, zq12, zq11, zq7, zq5, zq6, zq9, zq8, zq31, zq32, ite_T, ite_F, zq33, zq34, zq35, Nat.reduceEqDiff, len22, len24, fa26_0, fa26_1, fa26_2, len27, len35, fa86_0, fa86_1, fa86_2, fa97_0, fa97_1, fa106_0, fa106_1, fa145_0, fa145_1, fa145_2, fa145_3, fa145_4, len192]
  refine zvc_ H 0 rfl hC (by omega) (by omega) fun w3 a _ ha H => ?_
  simp only [List.set_cons_zero, zq18, zq19, zq20, zq21, zq22, zq23, zq24, zq25, zq26, zq27, zq28, zq4, zq3, zq1, zq2, zq0, zq29, zq30, zq14, zq15, zq16, zq17, zq13, zq10, zq12, zq11, zq7, zq5, zq6, zq9, zq8, zq31, zq32, ite_T, ite_F, zq33, zq34, zq35, Nat.reduceEqDiff, len22, len24, fa26_0, fa26_1, fa26_2, len27, len35, fa86_0, fa86_1, fa86_2, fa97_0, fa97_1, fa106_0, fa106_1, fa145_0, fa145_1, fa145_2, fa145_3, fa145_4, len192] at H ⊢
  have ha := ha (by omega)
  refine zvc_ H 0 rfl hC (by omega) (by omega) fun w4 t _ ht H => ?_
  simp only [List.set_cons_zero, zq18, zq19, zq20, zq21, zq22, zq23, zq24, zq25, zq26, zq27, zq28, zq4, zq3, zq1, zq2, zq0, zq29, zq30, zq14, zq15, zq16, zq17, zq13, zq10, zq12, zq11, zq7, zq5, zq6, zq9, zq8, zq31, zq32, ite_T, ite_F, zq33, zq34, zq35, Nat.reduceEqDiff, len22, len24, fa26_0, fa26_1, fa26_2, len27, len35, fa86_0, fa86_1, fa86_2, fa97_0, fa97_1, fa106_0, fa106_1, fa145_0, fa145_1, fa145_2, fa145_3, fa145_4, len192] at H ⊢
  have ht := ht (by omega)
  rw [zm_ (n := 1 + (a : Int)) (by omega) (by omega), zm_ (n := 1 + (t : Int)) (by omega) (by omega)]
  rw [bd26 (cells := #[.int .i64 (1 + (a : Int)), .int .i64 (1 + (t : Int)), .slice none 0 0]) rfl]
  refine zpb_ H inf26 fun b2 w5 H => ?_
  have H := H.insert 1
  simp only [List.take_succ_cons, List.take_zero, List.drop_succ_cons, List.drop_zero, List.nil_append, List.cons_append] at H
  refine zdb_ H 1 rfl sz26 rfl rfl rfl fun w6 H => ?_
  simp only [List.set_cons_zero, List.set_cons_succ] at H
  refine zvc_ H 0 rfl hC (by omega) (by omega) fun w7 n0 _ hn0 H => ?_
  simp only [List.set_cons_zero, zq18, zq19, zq20, zq21, zq22, zq23, zq24, zq25, zq26, zq27, zq28, zq4, zq3, zq1, zq2, zq0, zq29, zq30, zq14, zq15, zq16, zq17, zq13, zq10, zq12, zq11, zq7, zq5, zq6, zq9, zq8, zq31, zq32, ite_T, ite_F, zq33, zq34, zq35, Nat.reduceEqDiff, len22, len24, fa26_0, fa26_1, fa26_2, len27, len35, fa86_0, fa86_1, fa86_2, fa97_0, fa97_1, fa106_0, fa106_1, fa145_0, fa145_1, fa145_2, fa145_3, fa145_4, len192] at H ⊢
  have hn0 := hn0 (by omega)
  rw [zm_ (n := 1 + (n0 : Int)) (by omega) (by omega)]
  have H := (nilGow (e := 106) H).insert 1
  simp only [List.take_succ_cons, List.take_zero, List.drop_succ_cons, List.drop_zero, List.nil_append, List.cons_append] at H
  refine zfc_ (fun m f w' => m ≤ 1 + n0 ∧ f 4 = .int .i64 (m : Int) ∧ ∃ N' ft X c, ∃ rs : List RuleL, N' ≤ N + 20 + (1 + n0 - m) * 40 ∧ rs.length ≤ 1 + n0 - m ∧ (m < 1 + n0 → 0 < rs.length) ∧ (∀ r ∈ rs, r.2.length ≤ 1000) ∧ Apt w0 w' (cur bc (.slice C bs.length cap) N' :: gth ft X c rs :: bx b2 [.int .i64 (1 + (a : Int)), .int .i64 (1 + (t : Int)), .slice X rs.length c] 26 :: bx b1 [.int .i64 0, .int .i64 0, .slice none 0 0] 26 :: E)) (fun m => m) (1 + n0)
    ⟨Nat.le_refl _, rfl, _, _, none, 0, [], by omega, by simp, fun h => by omega, by simp, H⟩ ?_
  clear H
  rintro m f w8 NN hag ⟨hm, f4, N', ft, X, c, rs, hN', hrs, hpos, hrg, H⟩ hN2
  have f0 : f 0 = ptrv bc := hag 0 (by decide)
  have f2 : f 2 = ptrv b1 := hag 2 (by decide)
  have f3 : f 3 = ptrv b2 := hag 3 (by decide)
  simp only [f0, f3, f4, zq18, zq19, zq20, zq21, zq22, zq23, zq24, zq25, zq26, zq27, zq28, zq4, zq3, zq1, zq2, zq0, zq29, zq30, zq14, zq15, zq16, zq17, zq13, zq10, zq12, zq11, zq7, zq5, zq6, zq9, zq8, zq31, zq32, ite_T, ite_F, zq33, zq34, zq35, Nat.reduceEqDiff, len22, len24, fa26_0, fa26_1, fa26_2, len27, len35, fa86_0, fa86_1, fa86_2, fa97_0, fa97_1, fa106_0, fa106_1, fa145_0, fa145_1, fa145_2, fa145_3, fa145_4, len192]
  by_cases hm0 : 0 < m
  case neg =>
    simp only [show ¬ ((0 : Int) < (m : Int)) from by omega, decide_false, zq18, zq19, zq20, zq21, zq22, zq23, zq24, zq25, zq26, zq27, zq28, zq4, zq3, zq1, zq2, zq0, zq29, zq30, zq14, zq15, zq16, zq17, zq13, zq10, zq12, zq11, zq7, zq5, zq6, zq9, zq8, zq31, zq32, ite_T, ite_F, zq33, zq34, zq35, Nat.reduceEqDiff, len22, len24, fa26_0, fa26_1, fa26_2, len27, len35, fa86_0, fa86_1, fa86_2, fa97_0, fa97_1, fa106_0, fa106_1, fa145_0, fa145_1, fa145_2, fa145_3, fa145_4, len192]
    simp only [f2, f3, zq18, zq19, zq20, zq21, zq22, zq23, zq24, zq25, zq26, zq27, zq28, zq4, zq3, zq1, zq2, zq0, zq29, zq30, zq14, zq15, zq16, zq17, zq13, zq10, zq12, zq11, zq7, zq5, zq6, zq9, zq8, zq31, zq32, ite_T, ite_F, zq33, zq34, zq35, Nat.reduceEqDiff, len22, len24, fa26_0, fa26_1, fa26_2, len27, len35, fa86_0, fa86_1, fa86_2, fa97_0, fa97_1, fa106_0, fa106_1, fa145_0, fa145_1, fa145_2, fa145_3, fa145_4, len192]
    rw [zw_ zmb_ sz26 rfl (H.box 2 rfl)]
    refine zdb_ H 3 rfl sz26 rfl rfl rfl fun w9 H => ?_
    simp only [List.set_cons_zero, List.set_cons_succ] at H
    rw [ztc_, zw_ zmb_ sz26 rfl (H.box 3 rfl)]
    have H := (H.erase 3).erase 2
    simp only [List.eraseIdx_cons_zero, List.eraseIdx_cons_succ] at H
    exact hk w9 ⟨1 + (a : Int), 1 + (t : Int), rs⟩ ft X c ⟨⟨by show 0 ≤ 1 + (a : Int); omega, by show 1 + (a : Int) ≤ 1000; omega⟩, ⟨by show 0 ≤ 1 + (t : Int); omega, by show 1 + (t : Int) ≤ 1000; omega⟩, hpos (by omega), by show rs.length ≤ 100; omega, hrg⟩ (zfe_ H (by omega))
  simp only [show ((0 : Int) < (m : Int)) from by omega, decide_true, zq18, zq19, zq20, zq21, zq22, zq23, zq24, zq25, zq26, zq27, zq28, zq4, zq3, zq1, zq2, zq0, zq29, zq30, zq14, zq15, zq16, zq17, zq13, zq10, zq12, zq11, zq7, zq5, zq6, zq9, zq8, zq31, zq32, ite_T, ite_F, zq33, zq34, zq35, Nat.reduceEqDiff, len22, len24, fa26_0, fa26_1, fa26_2, len27, len35, fa86_0, fa86_1, fa86_2, fa97_0, fa97_1, fa106_0, fa106_1, fa145_0, fa145_1, fa145_2, fa145_3, fa145_4, len192]
  rw [ldB3 (H.box 2 rfl) rfl]
  refine zvc_ H 0 rfl hC (by omega) (by omega) fun w9 l _ hl H => ?_
  simp only [List.set_cons_zero] at H
  rw [ztb_ (cells := #[.int .i64 (l : Int), .slice none 0 0]) rfl]
  refine zpb_ H zvb_ fun b3 w10 H => ?_
  have H := H.insert 2
  simp only [List.take_succ_cons, List.take_zero, List.drop_succ_cons, List.drop_zero, List.nil_append, List.cons_append] at H
  refine zdb_ H 2 rfl zkb_ rfl rfl rfl fun w11 H => ?_
  simp only [List.set_cons_zero, List.set_cons_succ] at H
  refine zvc_ H 0 rfl hC (by omega) (by omega) fun w12 kk _ hkk H => ?_
  simp only [List.set_cons_zero] at H
  have hkk := hkk (by omega)
  have H := (H.addOwn (Gr.refl _) (show Own 3 w12 w12.heap.size none 0 [] from Row.nil _ _ _ _)).insert 3
  simp only [List.take_succ_cons, List.take_zero, List.drop_succ_cons, List.drop_zero, List.nil_append, List.cons_append] at H
  refine zfc_ (fun o f w' => o ≤ kk ∧ f 6 = .int .i64 (o : Int) ∧ f 4 = .int .i64 (m : Int) ∧ ∃ N2 Z d, ∃ xs : List Int, N2 ≤ N' + 4 + (kk - o) * 6 ∧ xs.length ≤ kk - o ∧ Apt w0 w' (cur bc (.slice C bs.length cap) N2 :: gth ft X c rs :: bx b3 [.int .i64 (l : Int), .slice Z xs.length d] 106 :: ows Z d xs :: bx b2 [.int .i64 (1 + (a : Int)), .int .i64 (1 + (t : Int)), .slice X rs.length c] 26 :: bx b1 [.int .i64 0, .int .i64 0, .slice none 0 0] 26 :: E)) (fun o => o) kk
    ⟨Nat.le_refl _, rfl, f4, _, none, 0, [], by omega, by simp, H⟩ ?_
  clear H
  rintro o g w13 N3 hag2 ⟨ho, g6, g4, N2, Z, d, xs, hN2', hxs, H⟩ hN4
  have g0 : g 0 = ptrv bc := (hag2 0 (by decide)).trans f0
  have g3 : g 3 = ptrv b2 := (hag2 3 (by decide)).trans f3
  have g5 : g 5 = ptrv b3 := hag2 5 (by decide)
  simp only [g0, g3, g6, zq18, zq19, zq20, zq21, zq22, zq23, zq24, zq25, zq26, zq27, zq28, zq4, zq3, zq1, zq2, zq0, zq29, zq30, zq14, zq15, zq16, zq17, zq13, zq10, zq12, zq11, zq7, zq5, zq6, zq9, zq8, zq31, zq32, ite_T, ite_F, zq33, zq34, zq35, Nat.reduceEqDiff, len22, len24, fa26_0, fa26_1, fa26_2, len27, len35, fa86_0, fa86_1, fa86_2, fa97_0, fa97_1, fa106_0, fa106_1, fa145_0, fa145_1, fa145_2, fa145_3, fa145_4, len192]
  by_cases ho0 : 0 < o
  case neg =>
    simp only [show ¬ ((0 : Int) < (o : Int)) from by omega, decide_false, zq18, zq19, zq20, zq21, zq22, zq23, zq24, zq25, zq26, zq27, zq28, zq4, zq3, zq1, zq2, zq0, zq29, zq30, zq14, zq15, zq16, zq17, zq13, zq10, zq12, zq11, zq7, zq5, zq6, zq9, zq8, zq31, zq32, ite_T, ite_F, zq33, zq34, zq35, Nat.reduceEqDiff, len22, len24, fa26_0, fa26_1, fa26_2, len27, len35, fa86_0, fa86_1, fa86_2, fa97_0, fa97_1, fa106_0, fa106_1, fa145_0, fa145_1, fa145_2, fa145_3, fa145_4, len192]
    simp only [g3, g4, g5, zq18, zq19, zq20, zq21, zq22, zq23, zq24, zq25, zq26, zq27, zq28, zq4, zq3, zq1, zq2, zq0, zq29, zq30, zq14, zq15, zq16, zq17, zq13, zq10, zq12, zq11, zq7, zq5, zq6, zq9, zq8, zq31, zq32, ite_T, ite_F, zq33, zq34, zq35, Nat.reduceEqDiff, len22, len24, fa26_0, fa26_1, fa26_2, len27, len35, fa86_0, fa86_1, fa86_2, fa97_0, fa97_1, fa106_0, fa106_1, fa145_0, fa145_1, fa145_2, fa145_3, fa145_4, len192]
    rw [zhe_ (H.box 4 rfl) rfl, zw_ zdc_ zkb_ rfl (H.box 2 rfl)]
    refine put2_c (r := ((l : Int), xs)) H 1 3 (by decide) rfl rfl (by omega) fun w14 ft' X' c' rs' hrs' H => ?_
    simp only [List.set_cons_zero, List.set_cons_succ] at H
    refine zdb_ H 4 rfl sz24 rfl rfl rfl fun w15 H => ?_
    simp only [List.set_cons_zero, List.set_cons_succ] at H
    have H := (H.erase 3).erase 2
    simp only [List.eraseIdx_cons_zero, List.eraseIdx_cons_succ] at H
    rw [zm_ (by omega) (by omega), show (m : Int) - 1 = ((m - 1 : Nat) : Int) from by omega]
    have hl' : rs'.length ≤ rs.length + 1 ∧ 0 < rs'.length := by
      rcases hrs' with ⟨e, h0⟩ | e
      · rw [e]
        exact ⟨by omega, h0⟩
      · rw [e, List.length_append, List.length_singleton]
        omega
    have hrg' : ∀ r ∈ rs', r.2.length ≤ 1000 := by
      rcases hrs' with ⟨e, h0⟩ | e
      · rw [e]
        exact hrg
      · rw [e]
        intro r hr
        rcases List.mem_append.1 hr with hr | hr
        · exact hrg r hr
        · rw [List.mem_singleton.1 hr]
          show xs.length ≤ 1000
          omega
    exact hN2 (m - 1) _ _ ⟨by omega, rfl, N2, ft', X', c', rs', by omega, by omega, fun _ => hl'.2, hrg', H⟩ (by omega)
  simp only [show ((0 : Int) < (o : Int)) from by omega, decide_true, zq18, zq19, zq20, zq21, zq22, zq23, zq24, zq25, zq26, zq27, zq28, zq4, zq3, zq1, zq2, zq0, zq29, zq30, zq14, zq15, zq16, zq17, zq13, zq10, zq12, zq11, zq7, zq5, zq6, zq9, zq8, zq31, zq32, ite_T, ite_F, zq33, zq34, zq35, Nat.reduceEqDiff, len22, len24, fa26_0, fa26_1, fa26_2, len27, len35, fa86_0, fa86_1, fa86_2, fa97_0, fa97_1, fa106_0, fa106_1, fa145_0, fa145_1, fa145_2, fa145_3, fa145_4, len192]
  refine zed_ (fun g w' => g 6 = .int .i64 (o : Int) ∧ g 4 = .int .i64 (m : Int) ∧ ∃ N2 Z d, ∃ xs : List Int, N2 ≤ N' + 4 + (kk - o) * 6 + 6 ∧ xs.length ≤ kk - o + 1 ∧ Apt w0 w' (cur bc (.slice C bs.length cap) N2 :: gth ft X c rs :: bx b3 [.int .i64 (l : Int), .slice Z xs.length d] 106 :: ows Z d xs :: bx b2 [.int .i64 (1 + (a : Int)), .int .i64 (1 + (t : Int)), .slice X rs.length c] 26 :: bx b1 [.int .i64 0, .int .i64 0, .slice none 0 0] 26 :: E)) (fun K1 hK1 => ?_) ?_
  case refine_2 =>
    rintro g w' ⟨g6, g4, N2, Z, d, xs, h1, h2, H⟩
    simp only [g6, zq18, zq19, zq20, zq21, zq22, zq23, zq24, zq25, zq26, zq27, zq28, zq4, zq3, zq1, zq2, zq0, zq29, zq30, zq14, zq15, zq16, zq17, zq13, zq10, zq12, zq11, zq7, zq5, zq6, zq9, zq8, zq31, zq32, ite_T, ite_F, zq33, zq34, zq35, Nat.reduceEqDiff, len22, len24, fa26_0, fa26_1, fa26_2, len27, len35, fa86_0, fa86_1, fa86_2, fa97_0, fa97_1, fa106_0, fa106_1, fa145_0, fa145_1, fa145_2, fa145_3, fa145_4, len192]
    rw [zm_ (by omega) (by omega), show (o : Int) - 1 = ((o - 1 : Nat) : Int) from by omega]
    exact hN4 (o - 1) _ _ ⟨by omega, rfl, g4, N2, Z, d, xs, by omega, by omega, H⟩ (by omega)
  rw [ldB3 (H.box 4 rfl) rfl]
  refine zvc_ H 0 rfl hC (by omega) (by omega) fun w14 x _ hx H => ?_
  simp only [List.set_cons_zero] at H
  refine zed_ (fun g w' => g 6 = .int .i64 (o : Int) ∧ g 4 = .int .i64 (m : Int) ∧ g 5 = ptrv b3 ∧ (∃ x : Int, g 7 = .int .i64 x) ∧ ∃ N2, N2 ≤ N' + 4 + (kk - o) * 6 + 6 ∧ Apt w0 w' (cur bc (.slice C bs.length cap) N2 :: gth ft X c rs :: bx b3 [.int .i64 (l : Int), .slice Z xs.length d] 106 :: ows Z d xs :: bx b2 [.int .i64 (1 + (a : Int)), .int .i64 (1 + (t : Int)), .slice X rs.length c] 26 :: bx b1 [.int .i64 0, .int .i64 0, .slice none 0 0] 26 :: E)) (fun K2 hK2 => ?_) ?_
  · refine one_c H 0 rfl hC (by omega) (by omega) fun w15 b H => ?_
    simp only [List.set_cons_zero] at H
    cases b
    · simp only [zq18, zq19, zq20, zq21, zq22, zq23, zq24, zq25, zq26, zq27, zq28, zq4, zq3, zq1, zq2, zq0, zq29, zq30, zq14, zq15, zq16, zq17, zq13, zq10, zq12, zq11, zq7, zq5, zq6, zq9, zq8, zq31, zq32, ite_T, ite_F, zq33, zq34, zq35, Nat.reduceEqDiff, len22, len24, fa26_0, fa26_1, fa26_2, len27, len35, fa86_0, fa86_1, fa86_2, fa97_0, fa97_1, fa106_0, fa106_1, fa145_0, fa145_1, fa145_2, fa145_3, fa145_4, len192]
      exact hK2 _ _ ⟨g6, g4, g5, ⟨_, rfl⟩, _, by omega, H⟩
    · simp only [zq18, zq19, zq20, zq21, zq22, zq23, zq24, zq25, zq26, zq27, zq28, zq4, zq3, zq1, zq2, zq0, zq29, zq30, zq14, zq15, zq16, zq17, zq13, zq10, zq12, zq11, zq7, zq5, zq6, zq9, zq8, zq31, zq32, ite_T, ite_F, zq33, zq34, zq35, Nat.reduceEqDiff, len22, len24, fa26_0, fa26_1, fa26_2, len27, len35, fa86_0, fa86_1, fa86_2, fa97_0, fa97_1, fa106_0, fa106_1, fa145_0, fa145_1, fa145_2, fa145_3, fa145_4, len192]
      rw [ldB3 (H.box 4 rfl) rfl]
      refine zvc_ H 0 rfl hC (by omega) (by omega) fun w16 y _ hy H => ?_
      simp only [List.set_cons_zero, zq18, zq19, zq20, zq21, zq22, zq23, zq24, zq25, zq26, zq27, zq28, zq4, zq3, zq1, zq2, zq0, zq29, zq30, zq14, zq15, zq16, zq17, zq13, zq10, zq12, zq11, zq7, zq5, zq6, zq9, zq8, zq31, zq32, ite_T, ite_F, zq33, zq34, zq35, Nat.reduceEqDiff, len22, len24, fa26_0, fa26_1, fa26_2, len27, len35, fa86_0, fa86_1, fa86_2, fa97_0, fa97_1, fa106_0, fa106_1, fa145_0, fa145_1, fa145_2, fa145_3, fa145_4, len192] at H ⊢
      exact hK2 _ _ ⟨g6, g4, g5, ⟨_, rfl⟩, _, by omega, H⟩
  · clear H
    rintro g w15 ⟨g6, g4, g5, ⟨y, g7⟩, N5, hN5, H⟩
    simp only [g5, g7, zq18, zq19, zq20, zq21, zq22, zq23, zq24, zq25, zq26, zq27, zq28, zq4, zq3, zq1, zq2, zq0, zq29, zq30, zq14, zq15, zq16, zq17, zq13, zq10, zq12, zq11, zq7, zq5, zq6, zq9, zq8, zq31, zq32, ite_T, ite_F, zq33, zq34, zq35, Nat.reduceEqDiff, len22, len24, fa26_0, fa26_1, fa26_2, len27, len35, fa86_0, fa86_1, fa86_2, fa97_0, fa97_1, fa106_0, fa106_1, fa145_0, fa145_1, fa145_2, fa145_3, fa145_4, len192]
    rw [zad_ (H.box 2 rfl) rfl]
    refine pushH H 3 rfl rfl (by omega) fun t1 Z2 d2 w16 H => ?_
    simp only [List.set_cons_zero, List.set_cons_succ, zq18, zq19, zq20, zq21, zq22, zq23, zq24, zq25, zq26, zq27, zq28, zq4, zq3, zq1, zq2, zq0, zq29, zq30, zq14, zq15, zq16, zq17, zq13, zq10, zq12, zq11, zq7, zq5, zq6, zq9, zq8, zq31, zq32, ite_T, ite_F, zq33, zq34, zq35, Nat.reduceEqDiff, len22, len24, fa26_0, fa26_1, fa26_2, len27, len35, fa86_0, fa86_1, fa86_2, fa97_0, fa97_1, fa106_0, fa106_1, fa145_0, fa145_1, fa145_2, fa145_3, fa145_4, len192] at H ⊢
    refine zdb_ H 2 rfl sz27 rfl rfl rfl fun w17 H => ?_
    simp only [List.set_cons_zero, List.set_cons_succ, List.take_succ_cons, List.take_zero, List.drop_succ_cons, List.drop_zero, List.nil_append, List.cons_append, List.drop_nil, Value.cells] at H
    exact hK1 _ _ ⟨g6, g4, N5, Z2, d2, xs ++ [y], hN5, by rw [List.length_append, List.length_singleton]; omega, H⟩
end
end Go.Proofs.Yteabbgaffgpegaa

namespace Go.Sh
open Go
def vls (ls : List (List Value)) (j : Nat) : List Value := ls.getD j []
theorem vls_eq {ls : List (List Value)} {j : Nat} (h : j < ls.length) : vls ls j = ls[j] := by simp [vls, List.getD_eq_getElem?_getD, h]
theorem zvi_ {ls : List (List Value)} {i j : Nat} {l : List Value} (hi : i < ls.length) : vls (ls.set i l) j = if j = i then l else vls ls j := by
  simp only [vls, List.getD_eq_getElem?_getD, List.getElem?_set]
  by_cases hij : i = j
  · subst hij
    simp [hi]
  · rw [if_neg hij, if_neg (fun e => hij e.symm)]
structure OwnV (e1 e2 : Nat) (w : World) (B : Nat) (X : Option Addr) (c : Nat) (ls : List (List Value)) (ps : Nat → Option Addr × Nat) : Prop where
  row : ∃ cells, Row w B e1 1 X ls.length c cells ∧ ∀ j, j < ls.length → cells[j]? = some (.slice (ps j).1 (vls ls j).length (ps j).2)
  own : ∀ j, j < ls.length → Row w B e2 1 (ps j).1 (vls ls j).length (ps j).2 (vls ls j)
  two : ∀ i j, i < ls.length → j < ls.length → i ≠ j → blk (ps i).1 = none ∨ blk (ps i).1 ≠ blk (ps j).1
section
variable {e1 e2 : Nat} {w w' : World} {B B' : Nat} {X : Option Addr} {c : Nat} {ls : List (List Value)} {ps : Nat → Option Addr × Nat}
theorem OwnV.same (h : OwnV e1 e2 w B X c ls ps) (hs : ∀ q, Foot X ps ls.length q → w'.heap[q]? = w.heap[q]?) : OwnV e1 e2 w' B X c ls ps := by
  obtain ⟨⟨cells, hr, hc⟩, ho, ht⟩ := h
  exact ⟨⟨cells, hr.same fun q hq => hs q (.inl hq), hc⟩, fun j hj => Row.same (ho j hj) fun q hq => hs q (.inr ⟨j, hj, hq⟩), ht⟩
theorem OwnV.up (h : OwnV e1 e2 w B X c ls ps) (hs : ∀ q, Foot X ps ls.length q → B' ≤ q) : OwnV e1 e2 w B' X c ls ps := by
  obtain ⟨⟨cells, hr, hc⟩, ho, ht⟩ := h
  exact ⟨⟨cells, hr.up fun q hq => hs q (.inl hq), hc⟩, fun j hj => Row.up (ho j hj) fun q hq => hs q (.inr ⟨j, hj, hq⟩), ht⟩
theorem OwnV.mono (h : OwnV e1 e2 w B X c ls ps) (hb : B' ≤ B) : OwnV e1 e2 w B' X c ls ps := by
  obtain ⟨⟨cells, hr, hc⟩, ho, ht⟩ := h
  exact ⟨⟨cells, Row.mono hr hb, hc⟩, fun j hj => Row.mono (ho j hj) hb, ht⟩
theorem OwnV.foot (h : OwnV e1 e2 w B X c ls ps) {q : Nat} (hq : Foot X ps ls.length q) : B ≤ q ∧ q < w.heap.size := by
  obtain ⟨⟨cells, hr, hc⟩, ho, ht⟩ := h
  rcases hq with hq | ⟨l, hl, hq⟩
  · exact hr.ge hq
  · exact Row.ge (ho l hl) hq
theorem OwnV.ptr (h : OwnV e1 e2 w B X c ls ps) (hl : 0 < ls.length) : X = some (ad X) := by
  obtain ⟨⟨cells, hr, hc⟩, _⟩ := h
  exact hr.ptr hl
theorem OwnV.cell (h : OwnV e1 e2 w B X c ls ps) {j : Nat} (hj : j < ls.length) : w.cell? ((ad X).add j) = some (.slice (ps j).1 (vls ls j).length (ps j).2) := by
  obtain ⟨⟨cells, hr, hc⟩, _⟩ := h
  exact hr.src.cell _ _ (hc j hj)
theorem OwnV.put {i m : Nat} {v : Value} (h : OwnV e1 e2 w B X c ls ps) (he : e1 ≠ e2) (hi : i < ls.length) (hr : Row w' B e2 1 (ps i).1 (vls ls i).length (ps i).2 ((vls ls i).set m v)) (g : w.grownBy w' (blk (ps i).1)) : OwnV e1 e2 w' B X c (ls.set i ((vls ls i).set m v)) ps := by
  obtain ⟨⟨cells, hr0, hc⟩, ho, ht⟩ := h
  refine ⟨⟨cells, by rw [List.length_set]; exact Row.kept hr0 g (zte_ hr0 (ho i hi) he), fun j hj => ?_⟩, fun j hj => ?_, fun a b ha hb hab => ?_⟩
  · rw [List.length_set] at hj
    rw [hc j hj, zvi_ hi]
    by_cases hij : j = i
    · subst hij
      rw [if_pos rfl, List.length_set]
    · rw [if_neg hij]
  · rw [List.length_set] at hj
    rw [zvi_ hi]
    by_cases hij : j = i
    · subst hij
      rw [if_pos rfl, List.length_set]
      exact hr
    · rw [if_neg hij]
      exact Row.kept (ho j hj) g (ht j i hj hi hij)
  · rw [List.length_set] at ha hb
    exact ht a b ha hb hab
theorem OwnV.setRow {i d B2 : Nat} {Y : Option Addr} {l cells : List Value} (h : OwnV e1 e2 w B X c ls ps) (he : e1 ≠ e2) (hi : i < ls.length) (ho : Row w B2 e2 1 Y l.length d l) (hne : ∀ j, j < ls.length → blk (ps j).1 = none ∨ blk (ps j).1 ≠ blk Y)
    (hr0 : Row w B e1 1 X ls.length c cells) (hc : ∀ j, j < ls.length → cells[j]? = some (.slice (ps j).1 (vls ls j).length (ps j).2)) (hr : Row w' B e1 1 X ls.length c (cells.set i (.slice Y l.length d))) (g : w.grownBy w' (blk X)) : OwnV e1 e2 w' 0 X c (ls.set i l) (fun j => if j = i then (Y, d) else ps j) := by
  have hlen := hr0.len
  refine ⟨⟨_, by rw [List.length_set]; exact Row.mono hr (Nat.zero_le _), fun j hj => ?_⟩, fun j hj => ?_, fun a b ha hb hab => ?_⟩
  · rw [List.length_set] at hj
    rw [zvi_ hi]
    by_cases hij : j = i
    · subst hij
      simp only [if_true]
      rw [List.getElem?_set_self (by omega)]
    · simp only [hij, if_false]
      rw [List.getElem?_set_ne (fun e => hij e.symm)]
      exact hc j hj
  · rw [List.length_set] at hj
    rw [zvi_ hi]
    by_cases hij : j = i
    · subst hij
      simp only [if_true]
      exact Row.mono (Row.kept ho g (zte_ ho hr0 fun e => he e.symm)) (Nat.zero_le _)
    · simp only [hij, if_false]
      exact Row.mono (Row.kept (h.own j hj) g (zte_ (h.own j hj) hr0 fun e => he e.symm)) (Nat.zero_le _)
  · rw [List.length_set] at ha hb
    by_cases hai : a = i <;> by_cases hbi : b = i
    · omega
    · simp only [hai, hbi, if_true, if_false]
      exact blk_sym (hne b hb)
    · simp only [hai, hbi, if_true, if_false]
      exact hne a ha
    · simp only [hai, hbi, if_false]
      exact h.two a b ha hb hab
end
def vvi (e1 e2 : Nat) (X : Option Addr) (c : Nat) (ls : List (List Value)) (ps : Nat → Option Addr × Nat) : Thing := ⟨fun w => OwnV e1 e2 w 0 X c ls ps, Foot X ps ls.length⟩
theorem zkj_ {w : World} {B e1 e2 c : Nat} {X : Option Addr} {ls : List (List Value)} {ps : Nat → Option Addr × Nat} (h : OwnV e1 e2 w B X c ls ps) : ∀ w', (∀ q, (vvi e1 e2 X c ls ps).ft q → w'.heap[q]? = w.heap[q]?) → (vvi e1 e2 X c ls ps).P w' := fun w' hq => (h.mono (Nat.zero_le B)).same hq
theorem Apt.vv {w0 w : World} {L : List Thing} (H : Apt w0 w L) (i : Nat) {e1 e2 c : Nat} {X : Option Addr} {ls : List (List Value)} {ps : Nat → Option Addr × Nat} (hi : L[i]? = some (vvi e1 e2 X c ls ps)) : OwnV e1 e2 w w0.heap.size X c ls ps := OwnV.up (H.get i hi) (H.ok i _ hi).lo
theorem Apt.nilVV {w0 w : World} {L : List Thing} (H : Apt w0 w L) (i : Nat) {e1 c n : Nat} (e2 : Nat) {X : Option Addr} (hi : L[i]? = some (rwi e1 1 X n c (List.replicate n (.slice none 0 0)))) : Apt w0 w (L.set i (vvi e1 e2 X c (List.replicate n []) fun _ => (none, 0))) := by
  have hr := H.row i hi
  have hv : ∀ j, vls (List.replicate n []) j = [] := fun j => by
    simp only [vls, List.getD_eq_getElem?_getD, List.getElem?_replicate]
    split <;> rfl
  have o : OwnV e1 e2 w w0.heap.size X c (List.replicate n []) fun _ => (none, 0) := by
    refine ⟨⟨_, by rw [List.length_replicate]; exact hr, fun j hj => ?_⟩, fun j hj => ?_, fun i j hi hj hij => .inl rfl⟩
    · rw [List.length_replicate] at hj
      rw [hv]
      simp [hj]
    · rw [hv]
      exact Row.nil _ _ _ _
  refine H.set hi (Gx.refl _ w) (fun q hq => ?_) (fun q hq => (o.foot hq).2) (zkj_ o)
  rcases hq with hq | ⟨l, hl, hq⟩
  · exact .inl hq
  · cases hq
section
variable {P : Program} {k : Value → World → Prop} {w0 w : World} {L : List Thing}
theorem storeVV (H : Apt w0 w L) (i j : Nat) {t e1 e2 m c : Nat} {X : Option Addr} {ls : List (List Value)} {ps : Nat → Option Addr × Nat} {v : Value} (hi : L[i]? = some (vvi e1 e2 X c ls ps)) (he : e1 ≠ e2) (hs : szOf P t 1) (hv : v.cells.toList = [v]) (h1 : v.oneCell' = true) (hj : j < ls.length) (hm : m < (vls ls j).length)
    (h : ∀ w', Apt w0 w' (L.set i (vvi e1 e2 X c (ls.set j ((vls ls j).set m v)) ps)) → k undef w') : Do P (zu_ t (.pointer (some ((ad (ps j).1).add m))) v) k w := by
  have o := H.vv i hi
  refine zme_ hs hv h1 (o.own j hj) (by omega) fun w' g hsz hr => ?_
  have o' := o.put he hj hr g
  refine h w' (H.set hi (gx_of g fun q hq => .inr ⟨j, hj, hq⟩) (fun q hq => .inl ?_) (fun q hq => (o'.foot hq).2) (zkj_ o'))
  rcases hq with hq | ⟨l, hl, hq⟩
  · exact .inl hq
  · rw [List.length_set] at hl
    exact .inr ⟨l, hl, hq⟩
theorem setRowVV (H : Apt w0 w L) (i j x : Nat) (hij : i ≠ j) {t e1 e2 c d n : Nat} {X Y : Option Addr} {ls : List (List Value)} {l : List Value} {ps : Nat → Option Addr × Nat} (hi : L[i]? = some (vvi e1 e2 X c ls ps)) (hj : L[j]? = some (rwi e2 1 Y n d l)) (hn : n = l.length) (he : e1 ≠ e2) (hs : szOf P t 1) (hx : x < ls.length)
    (h : ∀ w' ps', Apt w0 w' ((L.set i (vvi e1 e2 X c (ls.set x l) ps')).set j emp) → k undef w') : Do P (zu_ t (.pointer (some ((ad X).add x))) (.slice Y n d)) k w := by
  subst hn
  have o := H.vv i hi
  obtain ⟨⟨cells, hr0, hc⟩, _⟩ := id o
  refine zme_ hs rfl rfl hr0 (by omega) fun w' g hsz hr => ?_
  have o' := o.setRow he hx (H.row j hj) (fun m hm => by
    cases hq : blk (ps m).1 with
    | none => exact .inl rfl
    | some q => exact .inr fun e => H.two i j _ _ hij hi hj q (.inr ⟨m, hm, hq⟩) (show blk Y = some q from e.symm)) hr0 hc hr g
  refine h w' _ (H.join hij hi hj (gx_of g fun q hq => .inl (.inl hq)) (fun q hq => ?_) (fun q hq => (o'.foot hq).2) (zkj_ o'))
  rcases hq with hq | ⟨m, hm, hq⟩
  · exact .inl (.inl hq)
  · rw [List.length_set] at hm
    by_cases e : m = x
    · simp only [e, if_true] at hq
      exact .inr (.inl hq)
    · simp only [e, if_false] at hq
      exact .inl (.inr ⟨m, hm, hq⟩)
end
end Go.Sh

namespace Go.Sh
abbrev Tab := Nat → Nat → Nat → Bool
def Tab.put (T : Tab) (x i j : Nat) : Tab := fun a b c => if a = x ∧ b = i ∧ c = j then true else T a b c
def symT (T : Tab) (w : List Int) (x : Int) (i j : Nat) : Bool := if x < 0 then decide (j = i + 1) && decide (w.getD i 0 = -1 - x) else T x.toNat i j
def zxb_ (T : Tab) (w : List Int) : List Int → Nat → Nat → Bool
  | [], i, j => decide (i = j)
  | x :: xs, i, j => (List.range' i (j + 1 - i)).any fun m => symT T w x i m && zxb_ T w xs m j
theorem zmj_ {T : Tab} {w : List Int} {x : Int} {xs : List Int} {i j : Nat} (hx : x < 0) : zxb_ T w (x :: xs) i j = (decide (i < j) && (decide (w.getD i 0 = -1 - x) && zxb_ T w xs (i + 1) j)) := by
  rw [Bool.eq_iff_iff]
  simp only [zxb_, symT, hx, if_true, List.any_eq_true, List.mem_range'_1, Bool.and_eq_true, decide_eq_true_eq]
  constructor
  · rintro ⟨m, ⟨h1, h2⟩, ⟨rfl, h4⟩, h5⟩
    exact ⟨by omega, h4, h5⟩
  · rintro ⟨h1, h2, h3⟩
    exact ⟨i + 1, ⟨by omega, by omega⟩, ⟨rfl, h2⟩, h3⟩
theorem zpj_ {T : Tab} {w : List Int} {x : Int} {xs : List Int} {i j : Nat} (hx : ¬ x < 0) : zxb_ T w (x :: xs) i j = (List.range' i (j + 1 - i)).any fun m => T x.toNat i m && zxb_ T w xs m j := by
  simp only [zxb_, symT, hx, if_false]
theorem any_upto {p : Nat → Bool} {i j : Nat} (h : ∀ m, i ≤ m → m ≤ j → p m = false) : (List.range' i (j + 1 - i)).any p = false := by
  rw [List.any_eq_false]
  intro m hm
  rw [List.mem_range'_1] at hm
  rw [h m hm.1 (by omega)]
  decide
theorem any_at {p : Nat → Bool} {i j m : Nat} (h1 : i ≤ m) (h2 : m ≤ j) (h : p m = true) : (List.range' i (j + 1 - i)).any p = true := by
  rw [List.any_eq_true]
  exact ⟨m, List.mem_range'_1.2 ⟨h1, by omega⟩, h⟩

abbrev TS := Tab × Bool
def stepT (w : List Int) (r : Int × List Int) (i : Nat) (s : TS) (j : Nat) : TS := if !s.1 r.1.toNat i j && zxb_ s.1 w r.2 i j then (s.1.put r.1.toNat i j, true) else s
def rowT (w : List Int) (r : Int × List Int) (s : TS) (i : Nat) : TS := (List.range' i (w.length + 1 - i)).foldl (stepT w r i) s
def ruleT (w : List Int) (s : TS) (r : Int × List Int) : TS := (List.range (w.length + 1)).foldl (rowT w r) s
def zie_ (rs : List (Int × List Int)) (w : List Int) (s : TS) : TS := rs.foldl (ruleT w) s
def cellT (T : Tab) (p : Nat) : Bool := T (p / 121) (p / 11 % 11) (p % 11)
def openT (T : Tab) : Nat := (List.range 726).countP fun p => !cellT T p
theorem count_le {α : Type} {p q : α → Bool} {l : List α} (h : ∀ a ∈ l, p a = true → q a = true) : l.countP p ≤ l.countP q := List.countP_mono_left h
theorem count_lt {α : Type} {p q : α → Bool} {l : List α} (h : ∀ a ∈ l, p a = true → q a = true) {b : α} (hb : b ∈ l) (hq : q b = true) (hp : p b = false) : l.countP p < l.countP q := by
  induction l with
  | nil => cases hb
  | cons a l ih =>
    have ht : ∀ a ∈ l, p a = true → q a = true := fun x hx => h x (List.mem_cons_of_mem _ hx)
    rw [List.countP_cons, List.countP_cons]
    rcases List.mem_cons.1 hb with rfl | hb
    · have := count_le ht
      rw [hp, hq]
      simp
      omega
    · have := ih ht hb
      have ha := h a (List.mem_cons_self ..)
      by_cases hpa : p a = true
      · rw [if_pos hpa, if_pos (ha hpa)]
        omega
      · rw [if_neg hpa]
        split <;> omega
theorem open_put {T : Tab} {x i j : Nat} (hx : x < 6) (hi : i < 11) (hj : j < 11) (h : T x i j = false) : openT (T.put x i j) < openT T := by
  unfold openT
  refine count_lt (b := x * 121 + i * 11 + j) (fun p hp hh => ?_) (List.mem_range.2 (by omega)) ?_ ?_
  · simp only [cellT, Tab.put, Bool.not_eq_true'] at hh ⊢
    split at hh
    · cases hh
    · exact hh
  · have e1 : (x * 121 + i * 11 + j) / 121 = x := by omega
    have e2 : (x * 121 + i * 11 + j) / 11 % 11 = i := by omega
    have e3 : (x * 121 + i * 11 + j) % 11 = j := by omega
    simp [cellT, e1, e2, e3, h]
  · have e1 : (x * 121 + i * 11 + j) / 121 = x := by omega
    have e2 : (x * 121 + i * 11 + j) / 11 % 11 = i := by omega
    have e3 : (x * 121 + i * 11 + j) % 11 = j := by omega
    simp [cellT, Tab.put, e1, e2, e3]
def Inc (s s' : TS) : Prop := s' = s ∨ (s'.2 = true ∧ openT s'.1 < openT s.1)
theorem Inc.refl (s : TS) : Inc s s := .inl rfl
theorem Inc.trans {a b c : TS} (h : Inc a b) (g : Inc b c) : Inc a c := by
  rcases h with rfl | ⟨h1, h2⟩
  · exact g
  · rcases g with rfl | ⟨g1, g2⟩
    · exact .inr ⟨h1, h2⟩
    · exact .inr ⟨g1, by omega⟩
theorem Inc.fold {α : Type} {f : TS → α → TS} {l : List α} (h : ∀ a ∈ l, ∀ s, Inc s (f s a)) : ∀ s, Inc s (l.foldl f s) := by
  induction l with
  | nil => exact fun s => Inc.refl s
  | cons a l ih =>
    intro s
    exact (h a (List.mem_cons_self ..) s).trans (ih (fun b hb => h b (List.mem_cons_of_mem _ hb)) _)
theorem zmm_ {w : List Int} {r : Int × List Int} {i j : Nat} {s : TS} (hr : r.1.toNat < 6) (hi : i < 11) (hj : j < 11) : Inc s (stepT w r i s j) := by
  unfold stepT
  split
  · rename_i h
    simp only [Bool.and_eq_true, Bool.not_eq_true'] at h
    exact .inr ⟨rfl, open_put hr hi hj h.1⟩
  · exact .inl rfl
theorem rowT_inc {w : List Int} {r : Int × List Int} {i : Nat} (hr : r.1.toNat < 6) (hw : w.length ≤ 10) (hi : i < 11) (s : TS) : Inc s (rowT w r s i) :=
  Inc.fold (fun j hj s => by
    rw [List.mem_range'_1] at hj
    exact zmm_ hr hi (by omega)) s
theorem zpm_ {w : List Int} {r : Int × List Int} (hr : r.1.toNat < 6) (hw : w.length ≤ 10) (s : TS) : Inc s (ruleT w s r) :=
  Inc.fold (fun i hi s => rowT_inc hr hw (by have := List.mem_range.1 hi; omega) s) s
theorem zrf_ {rs : List (Int × List Int)} {w : List Int} (hr : ∀ r ∈ rs, r.1.toNat < 6) (hw : w.length ≤ 10) (s : TS) : Inc s (zie_ rs w s) :=
  Inc.fold (fun r h s => zpm_ (hr r h) hw s) s
inductive Span (rs : List (Int × List Int)) (w : List Int) : Tab → Tab → Prop
  | done {T : Tab} : (zie_ rs w (T, false)).2 = false → Span rs w T (zie_ rs w (T, false)).1
  | more {T U : Tab} : (zie_ rs w (T, false)).2 = true → Span rs w (zie_ rs w (T, false)).1 U → Span rs w T U
theorem Span.det {rs : List (Int × List Int)} {w : List Int} {T U V : Tab} (h : Span rs w T U) (g : Span rs w T V) : U = V := by
  induction h with
  | done h1 =>
    cases g with
    | done g1 => rfl
    | more g1 g2 => rw [h1] at g1; cases g1
  | more h1 h2 ih =>
    cases g with
    | done g1 => rw [h1] at g1; cases g1
    | more g1 g2 => exact ih g2
theorem Span.ex {rs : List (Int × List Int)} {w : List Int} (hr : ∀ r ∈ rs, r.1.toNat < 6) (hw : w.length ≤ 10) : ∀ (n : Nat) (T : Tab), openT T ≤ n → ∃ U, Span rs w T U := by
  intro n
  induction n with
  | zero =>
    intro T hT
    rcases zrf_ hr hw (T, false) with h | ⟨_, h⟩
    · exact ⟨_, .done (by rw [h])⟩
    · exact absurd h (by simp at hT ⊢; omega)
  | succ n ih =>
    intro T hT
    rcases zrf_ hr hw (T, false) with h | ⟨h1, h2⟩
    · exact ⟨_, .done (by rw [h])⟩
    · obtain ⟨U, hU⟩ := ih (zie_ rs w (T, false)).1 (by simp at h2; omega)
      exact ⟨U, .more h1 hU⟩
def noTab : Tab := fun _ _ _ => false
open Classical in
noncomputable def spanT (rs : List (Int × List Int)) (w : List Int) : Tab := if h : ∃ U, Span rs w noTab U then Classical.choose h else noTab
theorem Span.eq {rs : List (Int × List Int)} {w : List Int} {U : Tab} (h : Span rs w noTab U) : U = spanT rs w := by
  have hx : ∃ U, Span rs w noTab U := ⟨U, h⟩
  unfold spanT
  rw [dif_pos hx]
  exact h.det (Classical.choose_spec hx)
noncomputable def inL (rs : List (Int × List Int)) (w : List Int) : Bool := spanT rs w 0 0 w.length
end Go.Sh

namespace Go.Proofs.Yteabbgaffgpegaa
open Go Go.Sh

def pl107 : Plans := fun _ => ⟨false, [], .nil⟩
def S107 (v0 : Value) (k : Value → World → Prop) (w : World) : Prop :=
 Rd Try.prog (WS.at w) (sBin .sub 3 true (.int .i64 (-1)) v0) fun t1 =>
 k t1 w
theorem body107 : Try.f107.body = some (zg_ Try.f107) := by kernel_rfl
theorem same107 (v0 : Value) (k : Value → World → Prop) (w : World) : wpF Try.prog pl107 (zg_ Try.f107) (zt_ Try.prog Try.f107.results.toList k) (zp_ [v0]) w = S107 v0 k w := by kernel_rfl
theorem enter107 {v0 : Value} {k : Value → World → Prop} {w : World} (h : S107 v0 k w) : CallK Try.prog 107 [v0] k w :=
  zi_ (pl := pl107) zbb_ Try.func107 body107 (by kernel_rfl) (of_decide_eq_true (by kernel_rfl)) (by kernel_rfl) (by kernel_rfl) (Eq.mpr (same107 v0 k w) h)

end Go.Proofs.Yteabbgaffgpegaa

namespace Go.Sh
open Go
end Go.Sh
namespace Go.Proofs.Yteabbgaffgpegaa
open Go Go.Sh Go.RowKit

end Go.Proofs.Yteabbgaffgpegaa

namespace Go.Sh
open Go
theorem zjc_ {g : Gram} (hg : zab_ g = true) : 1 ≤ g.nons ∧ g.nons ≤ 6 := by
  simp only [zab_, inB, Bool.and_eq_true, decide_eq_true_eq] at hg
  exact hg.1.1.1
theorem zdd_ {g : Gram} (hg : zab_ g = true) : 1 ≤ g.toks ∧ g.toks ≤ 4 := by
  simp only [zab_, inB, Bool.and_eq_true, decide_eq_true_eq] at hg
  exact hg.1.1.2
def isT (gm : Gram) (tree : List Int) : Bool := decide (0 < tree.length) && decide (endT gm.rules tree tree.length 0 0 = some tree.length)
def ztf_ (gm : Gram) (tree : List Int) : Bool := zab_ gm && decide (tree.length ≤ 60) && isT gm tree
end Go.Sh
namespace Go.Proofs.Yteabbgaffgpegaa
open Go Go.Sh Go.RowKit

end Go.Proofs.Yteabbgaffgpegaa
