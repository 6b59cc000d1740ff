/- Texts of this repository put together: ShG6, ShH1, ShH2, ShH3, ShH4, ShH5, ShK2, ShP2, ShK3, ShR, ShZ2, Ca, ShZ3, ShZ4, ShZ5, ShZ6, ShZ7, ShV, ShP1, Be, ShQ1, ShQ2, Bf, ShS1, ShQ3, ShQ4, ShQ5, ShQ6, ShQ7. -/
import Derived.Test.YteabbgaffgpegaaKRewritesa
import Derived.WalkKit
import Derived.ProofKit
import Derived.OpenShut
import Derived.ShutString
import Derived.ChangeOld
import Derived.Below
import Derived.SizedLaws
import Derived.Deep.Slices
import Derived.Test.YteabbgaffgpegaaProg

set_option linter.unusedVariables false
set_option linter.unusedSimpArgs false
set_option maxRecDepth 100000
namespace Go.Proofs.Yteabbgaffgpegaa
open Go Go.Sh Go.RowKit

def PredR (t : Nat) (fv : Value) (p : RuleL → Bool) (w : World) : Prop := ∀ w1, Gr w w1 → ∀ (E : Nat → Prop) (v : Value) (r : RuleL), RuleV E w1 v r → ∀ (k : Value → World → Prop), (∀ w2, Gr w1 w2 → k (.bool (p r)) w2) → Do Try.prog (zbd_ fv [v] t) k w1
theorem zxm_ {F : Nat → Prop} {w : World} {X : Option Addr} {c : Nat} {rs : List RuleL} {fv : Value} {p : RuleL → Bool} (hx : RulesF F w X rs) (hp : PredR 4 fv p w) {k : Value → World → Prop}
    (hk : ∀ (r : Int) w', Gr w w' → decide (0 ≤ r) = rs.any p → k (.int .i64 r) w') :
    CallK Try.prog 136 [.slice X rs.length c, fv] k w := by
  refine enter136 ?_
  unfold S136
  simp only [go_sem, Nat.reduceEqDiff]
  refine ⟨fun f w' => ∃ i : Nat, i ≤ rs.length ∧ f 8 = .int .i64 i ∧ Gr w w' ∧ ∀ j, j < i → p (rul rs j) = false, fun f _ => rs.length - (intOf (f 8)).toNat, ⟨0, Nat.zero_le _, rfl, Gr.refl w, fun j hj => absurd hj (Nat.not_lt_zero j)⟩, ?_⟩
  rintro f w1 hag ⟨i, hi, h8, hg, hpre⟩
  have f0 : f 0 = .slice X rs.length c := hag 0 (by decide)
  have f1 : f 1 = fv := hag 1 (by decide)
  have f7 : f 7 = .int .i64 rs.length := hag 7 (by decide)
  simp only [f0, f1, f7, h8, go_sem, Nat.reduceEqDiff]
  by_cases hlt : i < rs.length
  · have hlt' : (i : Int) < rs.length := by omega
    have := hx.le
    simp only [hlt', decide_true, go_sem, Nat.reduceEqDiff]
    rw [zxd_ hx.ptr hlt]
    refine zuh_ zvc_ zdc_ (hx.gr hg) hlt fun v hv => ?_
    refine hp w1 hg _ _ _ hv _ fun w2 g2 => ?_
    have g2' := ze_ hg g2
    cases hb : p (rul rs i)
    · simp only [go_sem, Nat.reduceEqDiff]
      rw [zp_ (by omega) (by omega)]
      refine ⟨⟨i + 1, hlt, rfl, g2', fun j hj => ?_⟩, ?_⟩
      · rcases Nat.lt_succ_iff_lt_or_eq.1 hj with h | rfl
        · exact hpre j h
        · exact hb
      · simp only [intOf]
        omega
    · simp only [go_sem, Nat.reduceEqDiff]
      refine hk i w2 g2' ?_
      rw [decide_eq_true (by omega), zhj_ hlt hb]
  · simp only [show ¬ (i : Int) < rs.length from by omega, decide_false, go_sem, Nat.reduceEqDiff]
    refine hk (-1) w1 hg ?_
    rw [decide_eq_false (by decide), zgh_ fun j hj => hpre j (by omega)]
theorem zij_ {F : Nat → Prop} {w : World} {X : Option Addr} {c : Nat} {rs : List RuleL} {fv : Value} {p : RuleL → Bool} (hx : RulesF F w X rs) (hp : PredR 4 fv p w) {k : Value → World → Prop}
    (hk : ∀ w', Gr w w' → k (.bool (rs.any p)) w') : CallK Try.prog 98 [.slice X rs.length c, fv] k w := by
  refine enter98 ?_
  unfold S98
  refine zxm_ hx hp fun r w' g h => ?_
  simp only [go_sem, Nat.reduceEqDiff]
  rw [h]
  exact hk w' g
theorem isSymbol_c {w : World} {s n t : Int} (hn : inB n 1 6 = true) (ht : inB t 1 4 = true) {k : Value → World → Prop} (hk : k (.bool (symB n t s)) w) : CallK Try.prog 103 [.int .i64 s, .int .i64 n, .int .i64 t] k w := by
  have hn' : 1 ≤ n ∧ n ≤ 6 := by simpa [inB] using hn
  have ht' : 1 ≤ t ∧ t ≤ 4 := by simpa [inB] using ht
  refine enter103 ?_
  unfold S103
  simp only [go_sem, Nat.reduceEqDiff]
  rw [zp_ (by omega) (by omega), zp_ (by omega) (by omega)]
  exact in_c hk
theorem zim_ {w : World} {b b' e e' : Nat} {s n t : Int} (hB : Box w b [.int .i64 n] e) (hB' : Box w b' [.int .i64 t] e') (hn : inB n 1 6 = true) (ht : inB t 1 4 = true) {k : Value → World → Prop} (hk : k (.bool (!symB n t s)) w) :
    CallK Try.prog 102 [.int .i64 s, .pointer (some ⟨b, 0, none⟩), .pointer (some ⟨b', 0, none⟩)] k w := by
  refine enter102 ?_
  unfold S102
  rw [ldB3 hB rfl, ldB3 hB' rfl]
  refine isSymbol_c hn ht ?_
  simp only [go_sem, Nat.reduceEqDiff]
  exact hk
theorem zih_ {w : World} {X : Option Addr} {c : Nat} {xs : List Int} {n t : Int} (hx : Ints w X xs) (hn : inB n 1 6 = true) (ht : inB t 1 4 = true) {k : Value → World → Prop} (hk : ∀ w', Gr w w' → k (.bool (xs.all (symB n t))) w') :
    CallK Try.prog 45 [.slice X xs.length c, .int .i64 n, .int .i64 t] k w := by
  refine enter45 ?_
  unfold S45
  refine zfc_ fun b w1 g1 hb1 hB => ?_
  refine zfc_ fun b' w2 g2 hb2 hB' => ?_
  have hB := hB.gr g2
  simp only [go_sem, Nat.reduceEqDiff]
  have hp : Pred 4 (.func (.func 102) [].toArray [.pointer (some ⟨b, 0, none⟩), .pointer (some ⟨b', 0, none⟩)].toArray) (fun x => !symB n t x) w2 := fun w3 g3 x k hk =>
    callVc (zim_ (hB.gr g3) (hB'.gr g3) hn ht (hk w3 (Gr.refl w3)))
  refine zpg_ (hx.gr (ze_ g1 g2)) hp fun w3 g3 => ?_
  simp only [go_sem, Nat.reduceEqDiff]
  have := hk w3 (ze_ (ze_ g1 g2) g3)
  rwa [show xs.all (symB n t) = !xs.any (fun x => !symB n t x) from by simp [List.not_any_eq_all_not]] at this
theorem zjm_ {w : World} {X Y : Option Addr} {c d : Nat} {xs ys : List Int} (hx : Ints w X xs) (hy : Ints w Y ys) {k : Value → World → Prop} (hk : ∀ w', Gr w w' → k (.bool (decide (xs = ys))) w') :
    CallK Try.prog 64 [.slice X xs.length c, .slice Y ys.length d] k w := by
  refine enter64 ?_
  unfold S64
  simp only [go_sem, Nat.reduceEqDiff]
  by_cases hl : xs.length = ys.length
  rotate_left
  · simp only [Int.ofNat_inj, hl, decide_false, Bool.not_false, go_sem, Nat.reduceEqDiff]
    have := hk _ (Gr.refl w)
    rwa [decide_eq_false (fun e => hl (by rw [e]))] at this
  simp only [Int.ofNat_inj, hl, decide_true, Bool.not_true, go_sem, Nat.reduceEqDiff]
  rw [← hl]
  refine ⟨fun f w' => ∃ i : Nat, i ≤ xs.length ∧ f 13 = .int .i64 i ∧ Gr w w' ∧ xs.take i = ys.take i, fun f _ => xs.length - (intOf (f 13)).toNat, ⟨0, Nat.zero_le _, rfl, Gr.refl w, rfl⟩, ?_⟩
  rintro f w1 hag ⟨i, hi, h13, hg, hpre⟩
  have h0 : f 0 = .slice X xs.length c := hag 0 (by decide)
  have h1 : f 1 = .slice Y xs.length d := hag 1 (by decide)
  have h12 : f 12 = .int .i64 xs.length := hag 12 (by decide)
  simp only [h0, h1, h12, h13, go_sem, Nat.reduceEqDiff]
  by_cases hlt : i < xs.length
  · have hlt' : (i : Int) < xs.length := by omega
    have := hx.le
    simp only [hlt', decide_true, go_sem, Nat.reduceEqDiff]
    rw [zac_ hx.ptr hlt, ld3 ((hx.gr (ze_ hg (zhb_ w1))).cell i hlt), zac_ (hl ▸ hy.ptr) hlt, ld3 ((hy.gr (ze_ hg (zhb_ w1))).cell i (by omega))]
    simp only [go_sem, Nat.reduceEqDiff]
    by_cases he : xs.getD i 0 = ys.getD i 0
    · simp only [he, decide_true, Bool.not_true, go_sem, Nat.reduceEqDiff]
      rw [zp_ (by omega) (by omega)]
      refine ⟨⟨i + 1, hlt, rfl, ze_ hg (zhb_ w1), ?_⟩, ?_⟩
      · rw [zte_ hlt, zte_ (by omega), hpre, he]
      · simp only [intOf]
        omega
    · simp only [he, decide_false, Bool.not_false, go_sem, Nat.reduceEqDiff]
      have := hk _ (ze_ hg (zhb_ w1))
      rwa [decide_eq_false (fun e => he (by rw [e]))] at this
  · simp only [show ¬ (i : Int) < xs.length from by omega, decide_false, go_sem, Nat.reduceEqDiff]
    have := hk _ hg
    rwa [decide_eq_true] at this
    rwa [List.take_of_length_le (by omega), List.take_of_length_le (by omega)] at hpre
theorem sameRule_c {F E : Nat → Prop} {w : World} {v u : Value} {r q : RuleL} (hv : RuleV F w v r) (hu : RuleV E w u q) {k : Value → World → Prop} (hk : ∀ w', Gr w w' → k (.bool (decide (r = q))) w') :
    CallK Try.prog 100 [v, u] k w := by
  obtain ⟨Y, c, rfl, hc, hy⟩ := hv
  obtain ⟨Z, d, rfl, hd, hz⟩ := hu
  refine enter100 ?_
  unfold S100
  refine zfc_ fun b w1 g1 hb1 hb => ?_
  refine zfc_ fun b' w2 g2 hb2 hb' => ?_
  have hb := hb.gr g2
  have g := ze_ g1 g2
  simp only [go_sem, Nat.reduceEqDiff]
  rw [ldB3 hb rfl, ldB3 hb' rfl]
  simp only [go_sem, Nat.reduceEqDiff]
  by_cases h : r.1 = q.1
  · simp only [h, decide_true, go_sem, Nat.reduceEqDiff]
    rw [zjd_ hb rfl]
    rw [zjd_ hb' rfl]
    refine zjm_ (hy.is.gr g) (hz.is.gr g) fun w3 g3 => ?_
    have := hk w3 (ze_ g g3)
    by_cases h2 : r.2 = q.2
    · simp only [h2, decide_true, go_sem, Nat.reduceEqDiff]
      rwa [decide_eq_true (Prod.ext h h2)] at this
    · simp only [h2, decide_false, go_sem, Nat.reduceEqDiff]
      rwa [decide_eq_false (fun e => h2 (by rw [e]))] at this
  · simp only [h, decide_false, go_sem, Nat.reduceEqDiff]
    have := hk w2 g
    rwa [decide_eq_false (fun e => h (by rw [e]))] at this
theorem zym_ {E F : Nat → Prop} {w : World} {v : Value} {q r : RuleL} {Z : Option Addr} {b d e : Nat} (hv : RuleV E w v q) (hB : Box w b [.int .i64 r.1, .slice Z r.2.length d] e) (hz : IntsF F w Z r.2) (hd : r.2.length ≤ d) {k : Value → World → Prop} (hk : ∀ w', Gr w w' → k (.bool (decide (q = r))) w') :
    CallK Try.prog 99 ([v] ++ [.pointer (some ⟨b, 0, none⟩)]) k w := by
  refine enter99 ?_
  unfold S99
  obtain ⟨Y, c, rfl, hc, hy⟩ := hv
  refine zfc_ fun b1 w1 g1 hb1 hB1 => ?_
  rw [zfb_ zvc_ zdc_ rfl hB1, zfb_ zvc_ zdc_ rfl (hB.gr g1)]
  exact sameRule_c (r := q) (q := r) ⟨Y, c, rfl, hc, hy.gr g1⟩ ⟨Z, d, rfl, hd, hz.gr g1⟩ fun w2 g2 => hk w2 (ze_ g1 g2)
theorem zhf_ {F : Nat → Prop} {w : World} {v : Value} {gm : Gram} (hv : GramV F w v gm) {k : Value → World → Prop} (hk : ∀ w', Gr w w' → k (.bool (zy_ gm)) w') :
    CallK Try.prog 44 [v] k w := by
  have hv0 := hv
  obtain ⟨Y, c, rfl, hc, hy⟩ := hv
  refine enter44 ?_
  unfold S44
  refine zfc_ fun b w1 g1 hb1 hB => ?_
  simp only [go_sem, Nat.reduceEqDiff]
  rw [ldB3 hB rfl]
  refine in_c ?_
  cases hn : inB gm.nons 1 6
  · simp only [Bool.not_false, go_sem, Nat.reduceEqDiff]
    have := hk _ g1
    rwa [show zy_ gm = false from by simp [zy_, hn]] at this
  simp only [Bool.not_true, go_sem, Nat.reduceEqDiff]
  rw [ldB3 hB rfl]
  refine in_c ?_
  cases ht : inB gm.toks 1 4
  · simp only [Bool.not_false, go_sem, Nat.reduceEqDiff]
    have := hk _ g1
    rwa [show zy_ gm = false from by simp [zy_, ht]] at this
  simp only [Bool.not_true, go_sem, Nat.reduceEqDiff]
  rw [ldB24 hB rfl]
  simp only [go_sem, Nat.reduceEqDiff]
  by_cases hl : gm.rules.length ≤ 16
  rotate_left
  · simp only [show (16 : Int) < gm.rules.length from by omega, decide_true, go_sem, Nat.reduceEqDiff]
    have := hk _ g1
    rwa [show zy_ gm = false from by simp [zy_, hl]] at this
  simp only [show ¬ (16 : Int) < gm.rules.length from by omega, decide_false, go_sem, Nat.reduceEqDiff]
  rw [ldB24 hB rfl]
  simp only [go_sem, Nat.reduceEqDiff]
  have hn' : 1 ≤ gm.nons ∧ gm.nons ≤ 6 := by simpa [inB] using hn
  have ht' : 1 ≤ gm.toks ∧ gm.toks ≤ 4 := by simpa [inB] using ht
  refine ⟨fun f w' => ∃ i : Nat, i ≤ gm.rules.length ∧ f 24 = .int .i64 i ∧ Gr w1 w' ∧ ∀ j, j < i → zwc_ gm.nons gm.toks gm.rules j = true, fun f _ => gm.rules.length - (intOf (f 24)).toNat, ⟨0, Nat.zero_le _, rfl, Gr.refl w1, fun j hj => absurd hj (Nat.not_lt_zero j)⟩, ?_⟩
  rintro f w2 hag ⟨i, hi, h28, g2, hpre⟩
  have f1 : f 1 = .pointer (some ⟨b, 0, none⟩) := hag 1 (by decide)
  have f26 : f 22 = .slice Y gm.rules.length c := hag 22 (by decide)
  have f27 : f 23 = .int .i64 gm.rules.length := hag 23 (by decide)
  simp only [f1, f26, f27, h28, go_sem, Nat.reduceEqDiff]
  by_cases hlt : i < gm.rules.length
  · have hlt' : (i : Int) < gm.rules.length := by omega
    simp only [hlt', decide_true, go_sem, Nat.reduceEqDiff]
    have g := ze_ g1 g2
    rw [zxd_ hy.ptr hlt]
    refine zuh_ zvc_ zdc_ (hy.gr g) hlt fun v hv => ?_
    obtain ⟨Z, d, rfl, hd, hz⟩ := hv
    refine zke_ zgc_ fun b3 w3 g3 hb3 h3 => ?_
    have n3 := (hB.gr g2).ne hb3
    refine zvf_ zdc_ rfl (by intro u hu; simp [Value.cells] at hu; rcases hu with rfl | rfl <;> rfl) h3 (by simp [Value.cells]) fun w4 g4 s4 h4 => ?_
    have hB2 := (hB.gr (ze_ g2 g3)).put g4 n3
    have g' := zyf_ (ze_ g g3) g4 (Nat.le_trans g.size hb3)
    have k0 : zwc_ gm.nons gm.toks gm.rules i = false → ∀ w', Gr w w' → k (.bool false) w' := fun h w' gw => by
      have := hk w' gw
      rwa [show zy_ gm = false from by simp only [zy_, ztk_ hlt h, Bool.and_false]] at this
    simp only [go_sem, Nat.reduceEqDiff]
    rw [ldB3 h4 rfl, ldB3 hB2 rfl]
    simp only [go_sem, Nat.reduceEqDiff]
    rw [zp_ (by omega) (by omega)]
    refine in_c ?_
    cases hr : inB (rul gm.rules i).1 0 (gm.nons - 1)
    · simp only [Bool.not_false, go_sem, Nat.reduceEqDiff]
      exact k0 (by simp [zwc_, hr]) _ g'
    simp only [Bool.not_true, go_sem, Nat.reduceEqDiff]
    rw [zjd_ h4 rfl]
    simp only [go_sem, Nat.reduceEqDiff]
    by_cases h5 : (rul gm.rules i).2.length ≤ 4
    rotate_left
    · simp only [show (4 : Int) < (rul gm.rules i).2.length from by omega, decide_true, go_sem, Nat.reduceEqDiff]
      exact k0 (by simp [zwc_, h5]) _ g'
    simp only [show ¬ (4 : Int) < (rul gm.rules i).2.length from by omega, decide_false, go_sem, Nat.reduceEqDiff]
    rw [zjd_ h4 rfl]
    rw [ldB3 hB2 rfl]
    rw [ldB3 hB2 rfl]
    have g24 := zyf_ g3 g4 hb3
    refine zih_ (hz.is.gr g24) hn ht fun w5 g5 => ?_
    simp only [go_sem, Nat.reduceEqDiff]
    cases hs : (rul gm.rules i).2.all (symB gm.nons gm.toks)
    · simp only [Bool.not_false, go_sem, Nat.reduceEqDiff]
      exact k0 (by simp only [zwc_, hs, Bool.and_false, Bool.false_and]) _ (ze_ g' g5)
    simp only [Bool.not_true, go_sem, Nat.reduceEqDiff]
    have gw5 := ze_ g' g5
    rw [ldB24 (hB2.gr g5) rfl]
    rw [slh24 (by omega) (by omega), zce_]
    simp only [Int.toNat_natCast, go_sem, Nat.reduceEqDiff]
    have hti : (gm.rules.take i).length = i := by simp; omega
    have hyt : RulesF F w5 Y (gm.rules.take i) := (hy.gr gw5).take i
    have hp : PredR 4 (.func (.func 99) [].toArray [.pointer (some ⟨b3, 0, none⟩)].toArray) (fun q => decide (q = rul gm.rules i)) w5 := fun w6 g6 E v q hv k hk =>
      callVc (zym_ hv (h4.gr (ze_ g5 g6)) (hz.gr (ze_ g24 (ze_ g5 g6))) hd hk)
    have hcf := zij_ (c := c) hyt hp (k := ?k)
    rw [hti] at hcf
    refine hcf ?_
    intro w6 g6
    have e : (gm.rules.take i).any (fun q => decide (q = rul gm.rules i)) = (gm.rules.take i).any (fun q => decide (rul gm.rules i = q)) := by
      congr 1
      funext q
      exact decide_eq_decide.2 ⟨fun h => h.symm, fun h => h.symm⟩
    rw [e]
    cases ha : (gm.rules.take i).any (fun q => decide (rul gm.rules i = q))
    · simp only [go_sem, Nat.reduceEqDiff]
      have d28 : f 24 = .int .i64 i := h28
      rw [zp_ (by omega) (by omega)]
      refine ⟨⟨i + 1, hlt, rfl, ze_ (ze_ g2 g24) (ze_ g5 g6), fun l hl => ?_⟩, ?_⟩
      · rcases Nat.lt_succ_iff_lt_or_eq.1 hl with h | rfl
        · exact hpre l h
        · simp only [zwc_, hr, h5, hs, ha, decide_true, Bool.not_false, Bool.and_self]
      · simp only [intOf]
        omega
    · simp only [go_sem, Nat.reduceEqDiff]
      exact k0 (by simp only [zwc_, ha, Bool.not_true, Bool.and_false]) _ (ze_ gw5 g6)
  · simp only [show ¬ (i : Int) < gm.rules.length from by omega, decide_false, go_sem, Nat.reduceEqDiff]
    have := hk _ (ze_ g1 g2)
    rwa [show zy_ gm = true from by simp only [zy_, hn, ht, hl, decide_true, Bool.true_and]; exact zrk_ fun j hj => hpre j (by omega)] at this
end Go.Proofs.Yteabbgaffgpegaa

namespace Go.Sh
open Go
end Go.Sh
namespace Go.Proofs.Yteabbgaffgpegaa
open Go Go.Sh Go.RowKit

end Go.Proofs.Yteabbgaffgpegaa

namespace Go.Sh
open Go
def gmn (gs : List Gram) (j : Nat) : Gram := gs.getD j ⟨0, 0, []⟩
structure GramsF (F : Nat → Prop) (w : World) (X : Option Addr) (gs : List Gram) : Prop where
  le : gs.length ≤ 9223372036854775807
  ptr : 0 < gs.length → X = some (ad X)
  foot : 0 < gs.length → F (ad X).block
  row : ∀ j, j < gs.length → ∃ Y c, w.cell? ((ad X).add (j * 3)) = some (.int .i64 (gmn gs j).nons) ∧ w.cell? ((ad X).add (j * 3 + 1)) = some (.int .i64 (gmn gs j).toks) ∧ w.cell? ((ad X).add (j * 3 + 2)) = some (.slice Y (gmn gs j).rules.length c) ∧ (gmn gs j).rules.length ≤ c ∧ RulesF F w Y (gmn gs j).rules
theorem GramsF.gx {F D : Nat → Prop} {w w' : World} {X : Option Addr} {gs : List Gram} (h : GramsF F w X gs) (g : Gx D w w') (hn : ∀ b, F b → ¬ D b) : GramsF F w' X gs := by
  refine ⟨h.le, h.ptr, h.foot, fun j hj => ?_⟩
  obtain ⟨Y, c, h1, h2, h3, h4, h5⟩ := h.row j hj
  have hf := hn _ (h.foot (by omega))
  exact ⟨Y, c, g.cell h1 (by rw [zhc_]; exact hf), g.cell h2 (by rw [zhc_]; exact hf), g.cell h3 (by rw [zhc_]; exact hf), h4, h5.gx g hn⟩
theorem zdf_ {g : Gram} (hg : zy_ g = true) : g.rules.length ≤ 16 := by
  simp only [zy_, Bool.and_eq_true, decide_eq_true_eq] at hg
  exact hg.1.2
def From (w : World) (X0 X : Option Addr) : Prop := ∀ q, blk X = some q → q < w.heap.size → blk X0 = some q
theorem From.moved {w w2 : World} {X0 X X' : Option Addr} (h : From w X0 X) (hm : Moved w2 X X') (hs : w.heap.size ≤ w2.heap.size) : From w X0 X' := by
  intro q hq hlt
  rcases hm with e | e
  · exact h q (e ▸ hq) hlt
  · have := e q hq
    omega
abbrev zeroGram : Value := .agg #[.int .i64 0, .int .i64 0, .slice none 0 0]
end Go.Sh
namespace Go.Proofs.Yteabbgaffgpegaa
open Go Go.Sh Go.RowKit

end Go.Proofs.Yteabbgaffgpegaa

namespace Go.Sh
open Go
def GramR (w : World) (B : Nat) (v : Value) : Option Gram → Prop
  | some m => GramO w B v m
  | none => v = zeroGram
theorem GramR.put {w w' : World} {B b t : Nat} {v : Value} {o : Option Gram} {cs : List Value} (h : GramR w B v o) (hb : Box w b cs t) (h1 : 106 ≠ t) (h2 : 3 ≠ t) (g : w.grownBy w' (some b)) : GramR w' B v o := by
  cases o with
  | none => exact h
  | some m =>
    obtain ⟨X, c, ps, e, ho⟩ := h
    exact ⟨X, c, ps, e, ho.put hb h1 h2 g⟩
end Go.Sh
namespace Go.Proofs.Yteabbgaffgpegaa
open Go Go.Sh Go.RowKit

end Go.Proofs.Yteabbgaffgpegaa

namespace Go.Sh
open Go
theorem zfg_ {g : Gram} (hg : zy_ g = true) : ∀ i, i < g.rules.length → (rul g.rules i).2.length ≤ 4 := fun i hi => by
  simp only [zy_, Bool.and_eq_true, List.all_eq_true] at hg
  have := hg.2 i (List.mem_range.2 hi)
  simp only [zwc_, Bool.and_eq_true, decide_eq_true_eq] at this
  exact this.1.1.2
end Go.Sh
namespace Go.Proofs.Yteabbgaffgpegaa
open Go Go.Sh Go.RowKit

end Go.Proofs.Yteabbgaffgpegaa

namespace Go.Sh
open Go
def rgt (rl : List (List Int)) (j : Nat) : List Int := rl.getD j []
structure Intss (w : World) (X : Option Addr) (rl : List (List Int)) : Prop where
  le : rl.length ≤ 9223372036854775807
  ptr : 0 < rl.length → X = some (ad X)
  row : ∀ j, j < rl.length → ∃ Y c, w.cell? ((ad X).add j) = some (.slice Y (rgt rl j).length c) ∧ (rgt rl j).length ≤ c ∧ Ints w Y (rgt rl j)
theorem Intss.gr {w w' : World} {X : Option Addr} {rl : List (List Int)} (h : Intss w X rl) (g : Gr w w') : Intss w' X rl := ⟨h.le, h.ptr, fun j hj => by
  obtain ⟨Y, c, h1, h2, h3⟩ := h.row j hj
  exact ⟨Y, c, g.cell h1, h2, h3.gr g⟩⟩
theorem OwnR.congr {e1 e2 : Nat} {w : World} {B c : Nat} {X : Option Addr} {rs : List RuleL} {ps qs : Nat → Option Addr × Nat} (h : OwnR e1 e2 w B X c rs ps) (he : ∀ j, j < rs.length → qs j = ps j) : OwnR e1 e2 w B X c rs qs := by
  obtain ⟨⟨cells, hr, hc⟩, ho, ht⟩ := h
  refine ⟨⟨cells, hr, fun j hj => by rw [he j hj]; exact hc j hj⟩, fun j hj => by rw [he j hj]; exact ho j hj, fun i j hi hj hij => ?_⟩
  rw [he i hi, he j hj]
  exact ht i j hi hj hij
theorem blk_sym {U V : Option Addr} (h : blk U = none ∨ blk U ≠ blk V) : blk V = none ∨ blk V ≠ blk U := by
  cases hq : blk V with
  | none => exact .inl rfl
  | some q =>
    refine .inr fun e => ?_
    rcases h with h | h
    · rw [h] at e; cases e
    · exact h (by rw [hq, e])
end Go.Sh
namespace Go.Proofs.Yteabbgaffgpegaa
open Go Go.Sh Go.RowKit

end Go.Proofs.Yteabbgaffgpegaa

namespace Go.Sh
open Go
def emp : Thing := ⟨fun _ => True, fun _ => False⟩
theorem Apt.join {w0 w w' : World} {L : List Thing} (H : Apt w0 w L) {i j : Nat} {a b it : Thing} (hij : i ≠ j) (hi : L[i]? = some a) (hj : L[j]? = some b) (g : Gx (fun q => a.ft q ∨ b.ft q) w w') (lo : ∀ q, it.ft q → a.ft q ∨ b.ft q ∨ w.heap.size ≤ q) (hh : ∀ q, it.ft q → q < w'.heap.size)
    (kept : ∀ w'', (∀ q, it.ft q → w''.heap[q]? = w'.heap[q]?) → it.P w'') : Apt w0 w' ((L.set i it).set j emp) := by
  have ha := H.ok i a hi
  have hb := H.ok j b hj
  have hsz := H.gr.size
  have sub : ∀ l x, ((L.set i it).set j emp)[l]? = some x → (l = j ∧ x = emp) ∨ (l = i ∧ l ≠ j ∧ x = it) ∨ (l ≠ i ∧ l ≠ j ∧ L[l]? = some x) := fun l x hx => by
    rcases zmg_ hx with h | ⟨h1, h2⟩
    · exact .inl h
    · rcases zmg_ h2 with ⟨h3, h4⟩ | ⟨h3, h4⟩
      · exact .inr (.inl ⟨h3, h1, h4⟩)
      · exact .inr (.inr ⟨h3, h1, h4⟩)
  refine ⟨Gx.gr_after H.gr g fun q hq => hq.elim (ha.lo q) (hb.lo q), fun l x hx => ?_, fun l m x y hlm hx hy q hq hq' => ?_⟩
  · rcases sub l x hx with ⟨_, rfl⟩ | ⟨_, _, rfl⟩ | ⟨h1, h2, h3⟩
    · exact ⟨fun q hq => hq.elim, fun q hq => hq.elim, fun _ _ => trivial⟩
    · refine ⟨fun q hq => ?_, hh, kept⟩
      rcases lo q hq with h | h | h
      · exact ha.lo q h
      · exact hb.lo q h
      · omega
    · have := H.ok l x h3
      exact this.step g.size fun q hq => g.block q (this.hi q hq) fun hq' => hq'.elim (H.two l i x a h1 h3 hi q hq) (H.two l j x b h2 h3 hj q hq)
  · rcases sub l x hx with ⟨_, rfl⟩ | ⟨hli, _, rfl⟩ | ⟨h1, h2, h3⟩
    · exact hq
    · rcases sub m y hy with ⟨_, rfl⟩ | ⟨hmi, _, rfl⟩ | ⟨g1, g2, g3⟩
      · exact hq'
      · exact hlm (hli.trans hmi.symm)
      · rcases lo q hq with h | h | h
        · exact H.two i m a y (fun e => g1 e.symm) hi g3 q h hq'
        · exact H.two j m b y (fun e => g2 e.symm) hj g3 q h hq'
        · have := (H.ok m y g3).hi q hq'
          omega
    · rcases sub m y hy with ⟨_, rfl⟩ | ⟨hmi, _, rfl⟩ | ⟨g1, g2, g3⟩
      · exact hq'
      · rcases lo q hq' with h | h | h
        · exact H.two l i x a h1 h3 hi q hq h
        · exact H.two l j x b h2 h3 hj q hq h
        · have := (H.ok l x h3).hi q hq
          omega
      · exact H.two l m x y hlm h3 g3 q hq hq'
structure OwnSS (e1 e2 : Nat) (w : World) (B : Nat) (X : Option Addr) (c : Nat) (ls : List (List Int)) (ps : Nat → Option Addr × Nat) : Prop where
  row : ∃ cells, Row w B e1 1 X ls.length c cells ∧ ∀ j, j < ls.length → cells[j]? = some (.slice (ps j).1 (rgt ls j).length (ps j).2)
  own : ∀ j, j < ls.length → Own e2 w B (ps j).1 (ps j).2 (rgt ls j)
  two : ∀ i j, i < ls.length → j < ls.length → i ≠ j → blk (ps i).1 = none ∨ blk (ps i).1 ≠ blk (ps j).1
theorem OwnSS.same {e1 e2 : Nat} {w w' : World} {B : Nat} {X : Option Addr} {c : Nat} {ls : List (List Int)} {ps : Nat → Option Addr × Nat} (h : OwnSS e1 e2 w B X c ls ps) (hs : ∀ q, Foot X ps ls.length q → w'.heap[q]? = w.heap[q]?) : OwnSS e1 e2 w' B X c ls ps := by
  obtain ⟨⟨cells, hr, hc⟩, ho, ht⟩ := h
  exact ⟨⟨cells, hr.same fun q hq => hs q (.inl hq), hc⟩, fun j hj => Row.same (ho j hj) fun q hq => hs q (.inr ⟨j, hj, hq⟩), ht⟩
theorem OwnSS.up {e1 e2 : Nat} {w : World} {B B' : Nat} {X : Option Addr} {c : Nat} {ls : List (List Int)} {ps : Nat → Option Addr × Nat} (h : OwnSS e1 e2 w B X c ls ps) (hs : ∀ q, Foot X ps ls.length q → B' ≤ q) : OwnSS e1 e2 w B' X c ls ps := by
  obtain ⟨⟨cells, hr, hc⟩, ho, ht⟩ := h
  exact ⟨⟨cells, hr.up fun q hq => hs q (.inl hq), hc⟩, fun j hj => Row.up (ho j hj) fun q hq => hs q (.inr ⟨j, hj, hq⟩), ht⟩
theorem OwnSS.mono {e1 e2 : Nat} {w : World} {B B' : Nat} {X : Option Addr} {c : Nat} {ls : List (List Int)} {ps : Nat → Option Addr × Nat} (h : OwnSS e1 e2 w B X c ls ps) (hb : B' ≤ B) : OwnSS e1 e2 w B' X c ls ps := by
  obtain ⟨⟨cells, hr, hc⟩, ho, ht⟩ := h
  exact ⟨⟨cells, Row.mono hr hb, hc⟩, fun j hj => Row.mono (ho j hj) hb, ht⟩
theorem OwnSS.foot {e1 e2 : Nat} {w : World} {B c : Nat} {X : Option Addr} {ls : List (List Int)} {ps : Nat → Option Addr × Nat} (h : OwnSS e1 e2 w B X c ls ps) {q : Nat} (hq : Foot X ps ls.length q) : B ≤ q ∧ q < w.heap.size := by
  obtain ⟨⟨cells, hr, hc⟩, ho, ht⟩ := h
  rcases hq with hq | ⟨l, hl, hq⟩
  · exact hr.ge hq
  · exact Row.ge (ho l hl) hq
theorem OwnSS.gr {e1 e2 : Nat} {w w' : World} {B : Nat} {X : Option Addr} {c : Nat} {ls : List (List Int)} {ps : Nat → Option Addr × Nat} (h : OwnSS e1 e2 w B X c ls ps) (g : Gr w w') : OwnSS e1 e2 w' B X c ls ps := h.same fun q hq => g.block q (h.foot hq).2 (by simp)
theorem OwnSS.read {e1 e2 : Nat} {w : World} {B : Nat} {X : Option Addr} {c : Nat} {ls : List (List Int)} {ps : Nat → Option Addr × Nat} (h : OwnSS e1 e2 w B X c ls ps) : Intss w X ls := by
  obtain ⟨⟨cells, hr, hc⟩, ho, ht⟩ := h
  have hcap := hr.cap
  refine ⟨by omega, fun hp => hr.ptr hp, fun j hj => ?_⟩
  have hc' := Row.cap (ho j hj)
  exact ⟨(ps j).1, (ps j).2, hr.src.cell _ _ (hc j hj), by omega, Own.ints (ho j hj)⟩
def lssi (e1 e2 : Nat) (X : Option Addr) (c : Nat) (ls : List (List Int)) (ps : Nat → Option Addr × Nat) : Thing := ⟨fun w => OwnSS e1 e2 w 0 X c ls ps, Foot X ps ls.length⟩
theorem Apt.lssi {w0 w : World} {L : List Thing} (H : Apt w0 w L) (i : Nat) {e1 e2 c : Nat} {X : Option Addr} {ls : List (List Int)} {ps : Nat → Option Addr × Nat} (hi : L[i]? = some (lssi e1 e2 X c ls ps)) : OwnSS e1 e2 w w0.heap.size X c ls ps := OwnSS.up (H.get i hi) (H.ok i _ hi).lo
theorem OwnSS.nil (w : World) (B e1 e2 : Nat) (ps : Nat → Option Addr × Nat) : OwnSS e1 e2 w B none 0 [] ps := ⟨⟨[], Row.nil _ _ _ _, fun j hj => by simp at hj⟩, fun j hj => by simp at hj, fun i j hi => by simp at hi⟩
theorem zxg_ {ls ms : List (List Int)} {i : Nat} (h : i < ls.length) : rgt (ls ++ ms) i = rgt ls i := by
  simp [rgt, List.getD_eq_getElem?_getD, List.getElem?_append_left h]
theorem rgt_last {ls : List (List Int)} {y : List Int} : rgt (ls ++ [y]) ls.length = y := by
  simp [rgt, List.getD_eq_getElem?_getD]
theorem OwnSS.push {e1 e2 : Nat} {w w' : World} {B B' c d c' : Nat} {X X' Y : Option Addr} {ls : List (List Int)} {ys : List Int} {ps : Nat → Option Addr × Nat} {cells : List Value} (h : OwnSS e1 e2 w B X c ls ps) (ho : Own e2 w B' Y d ys) (hne : ∀ l, l < ls.length → blk (ps l).1 = none ∨ blk (ps l).1 ≠ blk Y) (he : e1 ≠ e2)
    (hr0 : Row w B e1 1 X ls.length c cells) (hc : ∀ j, j < ls.length → cells[j]? = some (.slice (ps j).1 (rgt ls j).length (ps j).2)) (hr : Row w' B e1 1 X' (ls.length + 1) c' (cells ++ [.slice Y ys.length d])) (g : w.grownBy w' (blk X)) : OwnSS e1 e2 w' 0 X' c' (ls ++ [ys]) (fun i => if i = ls.length then (Y, d) else ps i) := by
  have hlen := hr0.len
  refine ⟨⟨_, by rw [List.length_append]; exact Row.mono hr (Nat.zero_le _), fun j hj => ?_⟩, fun j hj => ?_, fun i j hi hj hij => ?_⟩
  · by_cases hlt : j < ls.length
    · rw [List.getElem?_append_left (by omega), hc j hlt, zxg_ hlt, if_neg (by omega)]
    · obtain rfl : j = ls.length := by simp at hj; omega
      rw [List.getElem?_append_right (by omega), rgt_last, if_pos rfl, hlen]
      simp
  · by_cases hlt : j < ls.length
    · rw [if_neg (by omega), zxg_ hlt]
      exact Row.mono (Row.kept (h.own j hlt) g (zif_ (h.own j hlt) hr0 fun e => he e.symm)) (Nat.zero_le _)
    · obtain rfl : j = ls.length := by simp at hj; omega
      rw [if_pos rfl, rgt_last]
      exact Row.mono (Row.kept ho g (zif_ ho hr0 fun e => he e.symm)) (Nat.zero_le _)
  · rw [List.length_append] at hi hj
    simp only [List.length_cons, List.length_nil] at hi hj
    by_cases h1 : i < ls.length <;> by_cases h2 : j < ls.length
    · rw [if_neg (by omega), if_neg (by omega)]
      exact h.two i j h1 h2 hij
    · obtain rfl : j = ls.length := by omega
      rw [if_neg (by omega), if_pos rfl]
      exact hne i h1
    · obtain rfl : i = ls.length := by omega
      rw [if_pos rfl, if_neg (by omega)]
      exact blk_sym (hne j h2)
    · omega
theorem zuk_ {ls ms : List (List Int)} {i : Nat} (h : ls.length ≤ i) : rgt (ls ++ ms) i = rgt ms (i - ls.length) := by
  simp [rgt, List.getD_eq_getElem?_getD, List.getElem?_append_right h]
theorem OwnSS.append {e1 e2 : Nat} {w w' : World} {B B' c d c' : Nat} {X X' Y : Option Addr} {ls ms : List (List Int)} {ps qs : Nat → Option Addr × Nat} {cells news : List Value} (h : OwnSS e1 e2 w B X c ls ps) (g0 : OwnSS e1 e2 w B' Y d ms qs) (hne : ∀ l m, l < ls.length → m < ms.length → blk (ps l).1 = none ∨ blk (ps l).1 ≠ blk (qs m).1) (he : e1 ≠ e2)
    (hr0 : Row w B e1 1 X ls.length c cells) (hc : ∀ j, j < ls.length → cells[j]? = some (.slice (ps j).1 (rgt ls j).length (ps j).2)) (hnl : news.length = ms.length) (hN : ∀ j, j < ms.length → news[j]? = some (.slice (qs j).1 (rgt ms j).length (qs j).2)) (hr : Row w' B e1 1 X' (ls.length + ms.length) c' (cells ++ news)) (g : w.grownBy w' (blk X)) : OwnSS e1 e2 w' 0 X' c' (ls ++ ms) (joinP ls.length ps qs) := by
  have hlen := hr0.len
  refine ⟨⟨_, by rw [List.length_append]; exact Row.mono hr (Nat.zero_le _), fun j hj => ?_⟩, fun j hj => ?_, fun i j hi hj hij => ?_⟩
  · rw [List.length_append] at hj
    by_cases hlt : j < ls.length
    · rw [List.getElem?_append_left (by omega), hc j hlt, zxg_ hlt]
      simp only [joinP, hlt, if_true]
    · rw [List.getElem?_append_right (by omega), zuk_ (by omega)]
      simp only [joinP, hlt, if_false]
      rw [show j - cells.length = j - ls.length from by omega]
      exact hN _ (by omega)
  · rw [List.length_append] at hj
    by_cases hlt : j < ls.length
    · rw [zxg_ hlt]
      simp only [joinP, hlt, if_true]
      exact Row.mono (Row.kept (h.own j hlt) g (zif_ (h.own j hlt) hr0 fun e => he e.symm)) (Nat.zero_le _)
    · rw [zuk_ (by omega)]
      simp only [joinP, hlt, if_false]
      exact Row.mono (Row.kept (g0.own _ (by omega)) g (zif_ (g0.own _ (by omega)) hr0 fun e => he e.symm)) (Nat.zero_le _)
  · rw [List.length_append] at hi hj
    by_cases h1 : i < ls.length <;> by_cases h2 : j < ls.length <;> simp only [joinP, h1, h2, if_true, if_false]
    · exact h.two i j h1 h2 hij
    · exact hne i _ h1 (by omega)
    · exact blk_sym (hne j _ h2 (by omega))
    · exact g0.two _ _ (by omega) (by omega) (by omega)
theorem OwnSS.put {e1 e2 : Nat} {w w' : World} {B c i m : Nat} {x : Int} {X : Option Addr} {ls : List (List Int)} {ps : Nat → Option Addr × Nat} (h : OwnSS e1 e2 w B X c ls ps) (he : e1 ≠ e2) (hi : i < ls.length) (hr : Row w' B e2 1 (ps i).1 (rgt ls i).length (ps i).2 (ints ((rgt ls i).set m x))) (g : w.grownBy w' (blk (ps i).1)) : OwnSS e1 e2 w' B X c (ls.set i ((rgt ls i).set m x)) ps := by
  obtain ⟨⟨cells, hr0, hc⟩, ho, ht⟩ := h
  have hg : ∀ j, rgt (ls.set i ((rgt ls i).set m x)) j = if j = i then (rgt ls i).set m x else rgt ls j := fun j => by
    simp only [rgt, List.getD_eq_getElem?_getD, List.getElem?_set]
    by_cases hij : i = j
    · subst hij
      simp [hi]
    · rw [if_neg hij, if_neg (fun e => hij e.symm)]
  refine ⟨⟨cells, by rw [List.length_set]; exact Row.kept hr0 g (zif_ hr0 (ho i hi) he), fun j hj => ?_⟩, fun j hj => ?_, fun a b ha hb hab => ?_⟩
  · rw [List.length_set] at hj
    rw [hc j hj, hg j]
    by_cases hij : j = i
    · subst hij
      rw [if_pos rfl, List.length_set]
    · rw [if_neg hij]
  · rw [List.length_set] at hj
    rw [hg j]
    by_cases hij : j = i
    · subst hij
      rw [if_pos rfl]
      unfold Own
      rw [List.length_set]
      exact hr
    · rw [if_neg hij]
      exact Row.kept (ho j hj) g (ht j i hj hi hij)
  · rw [List.length_set] at ha hb
    exact ht a b ha hb hab
theorem OwnSS.ptr {e1 e2 : Nat} {w : World} {B c : Nat} {X : Option Addr} {ls : List (List Int)} {ps : Nat → Option Addr × Nat} (h : OwnSS e1 e2 w B X c ls ps) (hl : 0 < ls.length) : X = some (ad X) := by
  obtain ⟨⟨cells, hr, hc⟩, _⟩ := h
  exact hr.ptr hl
theorem OwnSS.cell {e1 e2 : Nat} {w : World} {B c : Nat} {X : Option Addr} {ls : List (List Int)} {ps : Nat → Option Addr × Nat} (h : OwnSS e1 e2 w B X c ls ps) {j : Nat} (hj : j < ls.length) : w.cell? ((ad X).add j) = some (.slice (ps j).1 (rgt ls j).length (ps j).2) := by
  obtain ⟨⟨cells, hr, hc⟩, _⟩ := h
  exact hr.src.cell _ _ (hc j hj)
end Go.Sh
namespace Go.Proofs.Yteabbgaffgpegaa
open Go Go.Sh Go.RowKit
abbrev lss (X : Option Addr) (c : Nat) (ls : List (List Int)) (ps : Nat → Option Addr × Nat) : Thing := lssi 27 3 X c ls ps
section
variable {k : Value → World → Prop} {w0 w w' : World} {L : List Thing}
end
end Go.Proofs.Yteabbgaffgpegaa

namespace Go.Sh
inductive PT where
  | mk (non : Int) (rule at_ fin fr to : Nat) (kids : List PT)
def PT.non : PT → Int | .mk n _ _ _ _ _ _ => n
def PT.rule : PT → Nat | .mk _ r _ _ _ _ _ => r
def PT.at_ : PT → Nat | .mk _ _ a _ _ _ _ => a
def PT.fin : PT → Nat | .mk _ _ _ e _ _ _ => e
def PT.fr : PT → Nat | .mk _ _ _ _ f _ _ => f
def PT.to : PT → Nat | .mk _ _ _ _ _ t _ => t
def PT.kids : PT → List PT | .mk _ _ _ _ _ _ k => k
def okT (rs : List RuleL) (tree : List Int) (non : Int) (a : Nat) : Bool :=
  decide (a < tree.length) && (decide (0 ≤ tree.getD a 0) && decide (tree.getD a 0 ≤ (rs.length : Int) - 1)) && decide ((rul rs (tree.getD a 0).toNat).1 = non)
def rgtT (rs : List RuleL) (tree : List Int) (a : Nat) : List Int := (rul rs (tree.getD a 0).toNat).2
def zxb_ (rec : Int → Nat → List Int → Option (PT × List Int)) : List Int → Nat → List Int → List PT → Option (List PT × Nat × List Int)
  | [], e, w, ks => some (ks, e, w)
  | x :: xs, e, w, ks => if x < 0 then zxb_ rec xs e (w ++ [-1 - x]) ks else match rec x e w with
    | none => none
    | some (k, w') => zxb_ rec xs k.fin w' (ks ++ [k])
def zmb_ (rs : List RuleL) (tree : List Int) : Nat → Int → Nat → List Int → Option (PT × List Int)
  | 0, _, _, _ => none
  | f + 1, non, a, w => if okT rs tree non a = true then match zxb_ (zmb_ rs tree f) (rgtT rs tree a) (a + 1) w [] with
      | none => none
      | some (ks, e, w') => some (.mk non (tree.getD a 0).toNat a e w.length w'.length ks, w')
    else none
def endR (rec : Int → Nat → Option Nat) : List Int → Nat → Option Nat
  | [], e => some e
  | x :: xs, e => if x < 0 then endR rec xs e else match rec x e with
    | none => none
    | some e' => endR rec xs e'
def endT (rs : List RuleL) (tree : List Int) : Nat → Int → Nat → Option Nat
  | 0, _, _ => none
  | f + 1, non, a => if okT rs tree non a = true then endR (endT rs tree f) (rgtT rs tree a) (a + 1) else none
theorem endR_eq {rec : Int → Nat → List Int → Option (PT × List Int)} {rec' : Int → Nat → Option Nat} (h : ∀ x a w, rec' x a = (rec x a w).map fun z => z.1.fin) : ∀ (xs : List Int) (e : Nat) (w : List Int) (ks : List PT), endR rec' xs e = (zxb_ rec xs e w ks).map fun z => z.2.1 := by
  intro xs
  induction xs with
  | nil => intro e w ks; rfl
  | cons x xs ih =>
    intro e w ks
    unfold endR zxb_
    by_cases hx : x < 0
    · rw [if_pos hx, if_pos hx]
      exact ih _ _ _
    · rw [if_neg hx, if_neg hx, h x e w]
      cases rec x e w with
      | none => rfl
      | some z => exact ih _ _ _
theorem endT_eq (rs : List RuleL) (tree : List Int) : ∀ (f : Nat) (non : Int) (a : Nat) (w : List Int), endT rs tree f non a = (zmb_ rs tree f non a w).map fun z => z.1.fin := by
  intro f
  induction f with
  | zero => intro non a w; rfl
  | succ f ih =>
    intro non a w
    unfold endT zmb_
    by_cases hk : okT rs tree non a = true
    · rw [if_pos hk, if_pos hk, endR_eq ih _ _ w []]
      cases zxb_ (zmb_ rs tree f) (rgtT rs tree a) (a + 1) w [] <;> rfl
    · rw [if_neg hk, if_neg hk]
      rfl
mutual
def PT.parts : PT → List PT
  | .mk n r a e f t ks => .mk n r a e f t ks :: PT.partsL ks
def PT.partsL : List PT → List PT
  | [] => []
  | k :: ks => k.parts ++ PT.partsL ks
end
theorem zvd_ (ks ls : List PT) : PT.partsL (ks ++ ls) = PT.partsL ks ++ PT.partsL ls := by
  induction ks with
  | nil => simp [PT.partsL]
  | cons k ks ih => simp [PT.partsL, ih]
theorem zjj_ (p : PT) : p.parts = p :: PT.partsL p.kids := by
  cases p
  simp [PT.parts, PT.kids]
def Laid (l : List PT) (a : Nat) : Prop := ∀ i, (h : i < l.length) → l[i].at_ = a + i ∧ l[i].fin ≤ a + l.length ∧ a + i < l[i].fin ∧ l[i].parts = (l.drop i).take (l[i].fin - (a + i))
theorem Laid.append {l m : List PT} {a : Nat} (h : Laid l a) (g : Laid m (a + l.length)) : Laid (l ++ m) a := by
  intro i hi
  by_cases hl : i < l.length
  · obtain ⟨h1, h2, h3, h4⟩ := h i hl
    rw [List.getElem_append_left hl]
    refine ⟨h1, by simp; omega, h3, ?_⟩
    rw [List.drop_append_of_le_length (by omega), List.take_append_of_le_length (by simp; omega)]
    exact h4
  · obtain ⟨d, rfl⟩ : ∃ d, i = l.length + d := ⟨i - l.length, by omega⟩
    have hm : d < m.length := by simp at hi; omega
    obtain ⟨h1, h2, h3, h4⟩ := g d hm
    have e : (l ++ m)[l.length + d] = m[d] := by
      rw [List.getElem_append_right (by omega)]
      simp
    rw [e]
    have hlen : (l ++ m).length = l.length + m.length := List.length_append
    refine ⟨?_, ?_, ?_, ?_⟩
    · omega
    · omega
    · omega
    · have e2 : (l ++ m).drop (l.length + d) = m.drop d := by
        rw [← List.drop_drop, List.drop_left]
      rw [h4, e2, Nat.add_assoc]
theorem readR_laid {rec : Int → Nat → List Int → Option (PT × List Int)} (h : ∀ x a w p w', rec x a w = some (p, w') → Laid p.parts a ∧ p.fin = a + p.parts.length ∧ p.at_ = a ∧ p.non = x ∧ p.fr = w.length ∧ p.to = w'.length ∧ w.length ≤ w'.length) :
    ∀ (xs : List Int) (e : Nat) (w : List Int) (ks : List PT) (a : Nat) {ks' : List PT} {e' : Nat} {w' : List Int}, Laid (PT.partsL ks) a → e = a + (PT.partsL ks).length → zxb_ rec xs e w ks = some (ks', e', w') → Laid (PT.partsL ks') a ∧ e' = a + (PT.partsL ks').length ∧ w.length ≤ w'.length := by
  intro xs
  induction xs with
  | nil =>
    intro e w ks a ks' e' w' hl he hr
    simp only [zxb_, Option.some.injEq, Prod.mk.injEq] at hr
    obtain ⟨rfl, rfl, rfl⟩ := hr
    exact ⟨hl, he, Nat.le_refl _⟩
  | cons x xs ih =>
    intro e w ks a ks' e' w' hl he hr
    unfold zxb_ at hr
    by_cases hx : x < 0
    · rw [if_pos hx] at hr
      obtain ⟨h1, h2, h3⟩ := ih _ _ _ _ hl he hr
      exact ⟨h1, h2, by simp at h3; omega⟩
    · rw [if_neg hx] at hr
      cases hz : rec x e w with
      | none => rw [hz] at hr; cases hr
      | some z =>
        obtain ⟨k, w1⟩ := z
        rw [hz] at hr
        obtain ⟨h1, h2, _, _, _, _, h3⟩ := h x e w k w1 hz
        have hl' : Laid (PT.partsL (ks ++ [k])) a := by
          rw [zvd_]
          refine hl.append ?_
          simp only [PT.partsL, List.append_nil]
          rw [← he]
          exact h1
        obtain ⟨g1, g2, g3⟩ := ih _ _ _ _ hl' (by rw [zvd_]; simp [PT.partsL]; omega) hr
        exact ⟨g1, g2, by omega⟩
theorem zyg_ (rs : List RuleL) (tree : List Int) : ∀ (f : Nat) (non : Int) (a : Nat) (w : List Int) (p : PT) (w' : List Int), zmb_ rs tree f non a w = some (p, w') → Laid p.parts a ∧ p.fin = a + p.parts.length ∧ p.at_ = a ∧ p.non = non ∧ p.fr = w.length ∧ p.to = w'.length ∧ w.length ≤ w'.length := by
  intro f
  induction f with
  | zero => intro non a w p w' h; cases h
  | succ f ih =>
    intro non a w p w' h
    unfold zmb_ at h
    by_cases hk : okT rs tree non a = true
    · rw [if_pos hk] at h
      cases hz : zxb_ (zmb_ rs tree f) (rgtT rs tree a) (a + 1) w [] with
      | none => rw [hz] at h; cases h
      | some z =>
        obtain ⟨ks, e, w1⟩ := z
        rw [hz] at h
        simp only [Option.some.injEq, Prod.mk.injEq] at h
        obtain ⟨rfl, rfl⟩ := h
        have h0 : Laid (PT.partsL []) (a + 1) := fun i hi => by simp [PT.partsL] at hi
        obtain ⟨h1, h2, h3⟩ := readR_laid ih _ _ _ _ (a + 1) h0 (by simp [PT.partsL]) hz
        refine ⟨?_, by simp [PT.parts, PT.fin]; omega, rfl, rfl, rfl, rfl, h3⟩
        rw [PT.parts]
        intro i hi
        cases i with
        | zero =>
          refine ⟨rfl, ?_, ?_, ?_⟩
          · simp [PT.fin]; omega
          · simp [PT.fin]; omega
          · simp only [List.getElem_cons_zero, PT.fin, List.drop_zero, PT.parts]
            rw [List.take_of_length_le]
            simp
            omega
        | succ i =>
          simp only [List.length_cons] at hi
          obtain ⟨g1, g2, g3, g4⟩ := h1 i (by omega)
          simp only [List.getElem_cons_succ, List.drop_succ_cons, List.length_cons]
          refine ⟨by rw [g1]; omega, by omega, by omega, ?_⟩
          rw [g4]
          congr 1
          omega
    · rw [if_neg hk] at h
      cases h
theorem endR_le {rec : Int → Nat → Option Nat} {n : Nat} (h : ∀ x e e', rec x e = some e' → e' ≤ n) : ∀ (xs : List Int) (e e' : Nat), e ≤ n → endR rec xs e = some e' → e' ≤ n := by
  intro xs
  induction xs with
  | nil =>
    intro e e' he hr
    simp only [endR, Option.some.injEq] at hr
    omega
  | cons x xs ih =>
    intro e e' he hr
    unfold endR at hr
    split at hr
    · exact ih e e' he hr
    · split at hr
      · cases hr
      · rename_i e1 hz
        exact ih e1 e' (h x e e1 hz) hr
theorem endT_le {rs : List RuleL} {tree : List Int} : ∀ {f : Nat} {non : Int} {a e : Nat}, endT rs tree f non a = some e → e ≤ tree.length := by
  intro f
  induction f with
  | zero => intro non a e h; cases h
  | succ f ih =>
    intro non a e h
    unfold endT at h
    split at h
    · rename_i hok
      simp only [okT, Bool.and_eq_true, decide_eq_true_eq] at hok
      exact endR_le (fun x e e' h => ih h) _ _ _ (by omega) h
    · cases h
theorem readT_le {rs : List RuleL} {tree : List Int} {f : Nat} {non : Int} {a : Nat} {w w' : List Int} {p : PT} (h : zmb_ rs tree f non a w = some (p, w')) : p.fin ≤ tree.length := by
  have e := endT_eq rs tree f non a w
  rw [h] at e
  exact endT_le e
theorem readR_words {rec : Int → Nat → List Int → Option (PT × List Int)} (h : ∀ x a w p w', rec x a w = some (p, w') → w.length ≤ w'.length ∧ w'.length ≤ w.length + 4 * p.parts.length) :
    ∀ (xs : List Int) (e : Nat) (w : List Int) (ks : List PT) {ks' : List PT} {e' : Nat} {w' : List Int}, zxb_ rec xs e w ks = some (ks', e', w') → w.length ≤ w'.length ∧ w'.length + 4 * (PT.partsL ks).length ≤ w.length + xs.length + 4 * (PT.partsL ks').length := by
  intro xs
  induction xs with
  | nil =>
    intro e w ks ks' e' w' hr
    simp only [zxb_, Option.some.injEq, Prod.mk.injEq] at hr
    obtain ⟨rfl, rfl, rfl⟩ := hr
    simp
  | cons x xs ih =>
    intro e w ks ks' e' w' hr
    unfold zxb_ at hr
    split at hr
    · have := ih _ _ _ hr
      simp at this ⊢
      omega
    · split at hr
      · cases hr
      · rename_i k w1 hz
        have h1 := h _ _ _ _ _ hz
        have h2 := ih _ _ _ hr
        rw [zvd_] at h2
        simp [PT.partsL] at h2 ⊢
        omega
theorem zbi_ {rs : List RuleL} {tree : List Int} (h4 : ∀ q, q < rs.length → (rul rs q).2.length ≤ 4) : ∀ (f : Nat) (non : Int) (a : Nat) (w : List Int) (p : PT) (w' : List Int), zmb_ rs tree f non a w = some (p, w') → w.length ≤ w'.length ∧ w'.length ≤ w.length + 4 * p.parts.length := by
  intro f
  induction f with
  | zero => intro non a w p w' h; cases h
  | succ f ih =>
    intro non a w p w' h
    unfold zmb_ at h
    split at h
    · rename_i hok
      split at h
      · cases h
      · rename_i ks e w1 hz
        simp only [Option.some.injEq, Prod.mk.injEq] at h
        obtain ⟨rfl, rfl⟩ := h
        have h1 := readR_words ih _ _ _ _ hz
        have h5 : (rgtT rs tree a).length ≤ 4 := by
          simp only [okT, Bool.and_eq_true, decide_eq_true_eq] at hok
          exact h4 _ (by omega)
        simp only [PT.parts, List.length_cons, PT.partsL, List.length_nil] at h1 ⊢
        omega
    · cases h
theorem readR_tok {rec : Int → Nat → List Int → Option (PT × List Int)} {x : Int} {xs : List Int} {e : Nat} {w : List Int} {ks : List PT} (hx : x < 0) : zxb_ rec (x :: xs) e w ks = zxb_ rec xs e (w ++ [-1 - x]) ks := by
  rw [zxb_, if_pos hx]
theorem okT_eq {rs : List RuleL} {tree : List Int} {non : Int} {a : Nat} : okT rs tree non a = (decide (a < tree.length) && inB (tree.getD a 0) 0 ((rs.length : Int) - 1) && decide ((rul rs (tree.getD a 0).toNat).1 = non)) := rfl
theorem okT_lt {rs : List RuleL} {tree : List Int} {non : Int} {a : Nat} (h : ¬ a < tree.length) : okT rs tree non a = false := by
  rw [okT_eq, decide_eq_false h, Bool.false_and, Bool.false_and]
theorem okT_in {rs : List RuleL} {tree : List Int} {non : Int} {a : Nat} (h : inB (tree.getD a 0) 0 ((rs.length : Int) - 1) = false) : okT rs tree non a = false := by
  rw [okT_eq, h, Bool.and_false, Bool.false_and]
theorem okT_ne {rs : List RuleL} {tree : List Int} {non : Int} {a q : Nat} (hq : tree.getD a 0 = q) (h : ¬ (rul rs q).1 = non) : okT rs tree non a = false := by
  rw [okT_eq, hq, Int.toNat_natCast, decide_eq_false h, Bool.and_false]
theorem okT_of {rs : List RuleL} {tree : List Int} {non : Int} {a q : Nat} (h0 : a < tree.length) (h1 : inB (tree.getD a 0) 0 ((rs.length : Int) - 1) = true) (hq : tree.getD a 0 = q) (h : (rul rs q).1 = non) : okT rs tree non a = true := by
  rw [okT_eq, h1, hq, Int.toNat_natCast, decide_eq_true h, decide_eq_true h0]
  rfl
theorem zki_ {rs : List RuleL} {tree : List Int} {f : Nat} {non : Int} {a : Nat} {w : List Int} (h : okT rs tree non a = false) : zmb_ rs tree (f + 1) non a w = none := by
  simp only [zmb_, h, Bool.false_eq_true, if_false]
theorem readT_of {rs : List RuleL} {tree : List Int} {f q : Nat} {non : Int} {a : Nat} {w : List Int} (h : okT rs tree non a = true) (hq : tree.getD a 0 = q) : zmb_ rs tree (f + 1) non a w = match zxb_ (zmb_ rs tree f) (rul rs q).2 (a + 1) w [] with
    | none => none
    | some (ks, e, w') => some (.mk non q a e w.length w'.length ks, w') := by
  rw [zmb_, if_pos h, rgtT, hq, Int.toNat_natCast]
def PT.row (p : PT) : List Int := [p.non, p.fin, p.fr, p.to]
def noPT : PT := .mk 0 0 0 0 0 0 []
def ptn (l : List PT) (i : Nat) : PT := l.getD i noPT
open Go
def Away (a b : Thing) : Prop := ∀ q, a.ft q → ¬ b.ft q
theorem Away.symm {a b : Thing} (h : Away a b) : Away b a := fun q hq hq' => h q hq' hq
theorem apt_pair {L : List Thing} : (∀ (i j : Nat) (a b : Thing), i ≠ j → L[i]? = some a → L[j]? = some b → Away a b) ↔ L.Pairwise Away := by
  induction L with
  | nil => exact ⟨fun _ => .nil, fun _ i j a b _ h => by simp at h⟩
  | cons x L ih =>
    constructor
    · intro h
      refine List.Pairwise.cons (fun y hy => ?_) (ih.1 fun i j a b hij ha hb => h (i + 1) (j + 1) a b (by omega) (by simpa using ha) (by simpa using hb))
      obtain ⟨j, hj⟩ := List.getElem?_of_mem hy
      exact h 0 (j + 1) x y (by omega) rfl (by simpa using hj)
    · intro h i j a b hij ha hb
      obtain ⟨h1, h2⟩ := List.pairwise_cons.1 h
      match i, j with
      | 0, 0 => exact absurd rfl hij
      | 0, j + 1 =>
        obtain rfl : x = a := by simpa using ha
        exact h1 b (List.mem_of_getElem? (by simpa using hb))
      | i + 1, 0 =>
        obtain rfl : x = b := by simpa using hb
        exact (h1 a (List.mem_of_getElem? (by simpa using ha))).symm
      | i + 1, j + 1 => exact ih.2 h2 i j a b (by omega) (by simpa using ha) (by simpa using hb)
theorem Apt.perm {w0 w : World} {L M : List Thing} (H : Apt w0 w L) (p : L.Perm M) : Apt w0 w M := by
  refine ⟨H.gr, fun i it hi => ?_, apt_pair.2 ?_⟩
  · obtain ⟨j, hj⟩ := List.getElem?_of_mem (p.symm.subset (List.mem_of_getElem? hi))
    exact H.ok j it hj
  · exact (p.pairwise_iff fun h => Away.symm h).1 (apt_pair.1 H.two)
theorem Apt.insert {w0 w : World} {L : List Thing} {x : Thing} (H : Apt w0 w (L ++ [x])) (n : Nat) : Apt w0 w (L.take n ++ x :: L.drop n) := by
  refine H.perm ?_
  have e : L ++ [x] = L.take n ++ (L.drop n ++ [x]) := by rw [← List.append_assoc, List.take_append_drop]
  rw [e]
  exact (List.perm_append_comm (l₁ := L.drop n) (l₂ := [x])).append_left _
theorem Apt.erase {w0 w : World} {L : List Thing} (H : Apt w0 w L) (n : Nat) : Apt w0 w (L.eraseIdx n) := by
  have h : ∀ (i : Nat) (a : Thing), (L.eraseIdx n)[i]? = some a → L[if i < n then i else i + 1]? = some a := fun i a ha => by
    rw [List.getElem?_eraseIdx] at ha
    split at ha
    · rename_i h; rw [if_pos h]; exact ha
    · rename_i h; rw [if_neg h]; exact ha
  refine H.pick (fun i => if i < n then i else i + 1) h fun i j _ _ e => ?_
  split at e <;> split at e <;> omega
theorem Apt.weaken {w0 w : World} {L : List Thing} (H : Apt w0 w L) (i : Nat) {a b : Thing} (hi : L[i]? = some a) (hf : ∀ q, b.ft q → a.ft q) (hp : ∀ w', (∀ q, a.ft q → w'.heap[q]? = w.heap[q]?) → a.P w' → b.P w') (hk : ∀ w' w'', (∀ q, b.ft q → w''.heap[q]? = w'.heap[q]?) → b.P w' → b.P w'') : Apt w0 w (L.set i b) :=
  H.set hi (Gx.refl _ w) (fun q hq => .inl (hf q hq)) (fun q hq => (H.ok i a hi).hi q (hf q hq)) fun w'' h => hk w w'' h (hp w (fun _ _ => rfl) (H.get i hi))
def both (a b : Thing) : Thing := ⟨fun w => a.P w ∧ b.P w, fun q => a.ft q ∨ b.ft q⟩
theorem Apt.both {w0 w : World} {L : List Thing} (H : Apt w0 w L) (i j : Nat) (hij : i ≠ j) {a b : Thing} (hi : L[i]? = some a) (hj : L[j]? = some b) : Apt w0 w (((L.set i (Sh.both a b)).set j emp).eraseIdx j) :=
  (H.join (it := Sh.both a b) hij hi hj (Gx.refl _ w) (fun q hq => hq.elim .inl fun h => .inr (.inl h)) (fun q hq => hq.elim ((H.ok i a hi).hi q) ((H.ok j b hj).hi q)) fun w'' h => ⟨(H.ok i a hi).kept w'' fun q hq => h q (.inl hq), (H.ok j b hj).kept w'' fun q hq => h q (.inr hq)⟩).erase j

abbrev ptrv (b : Nat) : Value := .pointer (some ⟨b, 0, none⟩)
mutual
def PartAt (F : Nat → Prop) (w : World) : PT → Nat → Prop
  | .mk non rule a e f t ks, b => F b ∧ ∃ X c, Box w b [.int .i64 non, .int .i64 rule, .int .i64 a, .int .i64 e, .int .i64 f, .int .i64 t, .slice X ks.length c] 103 ∧ (0 < ks.length → X = some (ad X) ∧ F (ad X).block) ∧ ks.length ≤ c ∧ KidsAt F w ks X 0
def KidsAt (F : Nat → Prop) (w : World) : List PT → Option Addr → Nat → Prop
  | [], _, _ => True
  | k :: ks, X, j => (∃ b, w.cell? ((ad X).add j) = some (ptrv b) ∧ PartAt F w k b) ∧ KidsAt F w ks X (j + 1)
end
mutual
theorem PartAt.gr {F : Nat → Prop} {w w' : World} (g : Gr w w') : (p : PT) → (b : Nat) → PartAt F w p b → PartAt F w' p b
  | .mk non rule a e f t ks, b, h => by
    simp only [PartAt] at h ⊢
    obtain ⟨hb, X, c, h1, h2, h3, h4⟩ := h
    exact ⟨hb, X, c, h1.gr g, h2, h3, KidsAt.gr g ks X 0 h4⟩
theorem KidsAt.gr {F : Nat → Prop} {w w' : World} (g : Gr w w') : (ks : List PT) → (X : Option Addr) → (j : Nat) → KidsAt F w ks X j → KidsAt F w' ks X j
  | [], X, j, _ => by simp only [KidsAt]
  | k :: ks, X, j, h => by
    simp only [KidsAt] at h ⊢
    obtain ⟨⟨b, h1, h2⟩, h3⟩ := h
    exact ⟨⟨b, g.cell h1, PartAt.gr g k b h2⟩, KidsAt.gr g ks X (j + 1) h3⟩
end
mutual
theorem PartAt.same {F : Nat → Prop} {w w' : World} (hs : ∀ q, F q → w'.heap[q]? = w.heap[q]?) : (p : PT) → (b : Nat) → PartAt F w p b → PartAt F w' p b
  | .mk non rule a e f t ks, b, h => by
    simp only [PartAt] at h ⊢
    obtain ⟨hb, X, c, h1, h2, h3, h4⟩ := h
    refine ⟨hb, X, c, (hs b hb).trans h1, h2, h3, ?_⟩
    cases ks with
    | nil => simp only [KidsAt]
    | cons k ks => exact KidsAt.same hs (k :: ks) X 0 (h2 (by simp)).2 h4
theorem KidsAt.same {F : Nat → Prop} {w w' : World} (hs : ∀ q, F q → w'.heap[q]? = w.heap[q]?) : (ks : List PT) → (X : Option Addr) → (j : Nat) → F (ad X).block → KidsAt F w ks X j → KidsAt F w' ks X j
  | [], X, j, _, _ => by simp only [KidsAt]
  | k :: ks, X, j, hX, h => by
    simp only [KidsAt] at h ⊢
    obtain ⟨⟨b, h1, h2⟩, h3⟩ := h
    refine ⟨⟨b, ?_, PartAt.same hs k b h2⟩, KidsAt.same hs ks X (j + 1) hX h3⟩
    rw [World.cell?_of_block (hs _ (by rw [zhc_]; exact hX))]
    exact h1
end
mutual
theorem PartAt.mono {F E : Nat → Prop} {w : World} (he : ∀ q, F q → E q) : (p : PT) → (b : Nat) → PartAt F w p b → PartAt E w p b
  | .mk non rule a e f t ks, b, h => by
    simp only [PartAt] at h ⊢
    obtain ⟨hb, X, c, h1, h2, h3, h4⟩ := h
    exact ⟨he _ hb, X, c, h1, fun hp => ⟨(h2 hp).1, he _ (h2 hp).2⟩, h3, KidsAt.mono he ks X 0 h4⟩
theorem KidsAt.mono {F E : Nat → Prop} {w : World} (he : ∀ q, F q → E q) : (ks : List PT) → (X : Option Addr) → (j : Nat) → KidsAt F w ks X j → KidsAt E w ks X j
  | [], X, j, _ => by simp only [KidsAt]
  | k :: ks, X, j, h => by
    simp only [KidsAt] at h ⊢
    obtain ⟨⟨b, h1, h2⟩, h3⟩ := h
    exact ⟨⟨b, h1, PartAt.mono he k b h2⟩, KidsAt.mono he ks X (j + 1) h3⟩
end
theorem KidsAt.get {F : Nat → Prop} {w : World} {X : Option Addr} : ∀ {ks : List PT} {j i : Nat}, KidsAt F w ks X j → i < ks.length → ∃ b, w.cell? ((ad X).add (j + i)) = some (ptrv b) ∧ PartAt F w (ptn ks i) b := by
  intro ks
  induction ks with
  | nil => intro j i _ h; simp at h
  | cons k ks ih =>
    intro j i h hi
    simp only [KidsAt] at h
    cases i with
    | zero => exact h.1
    | succ i =>
      obtain ⟨b, h1, h2⟩ := ih h.2 (by simpa using hi)
      exact ⟨b, by rw [show j + (i + 1) = j + 1 + i from by omega]; exact h1, by simpa [ptn] using h2⟩
theorem PartAt.box {F : Nat → Prop} {w : World} {p : PT} {b : Nat} (h : PartAt F w p b) : ∃ X c, Box w b [.int .i64 p.non, .int .i64 p.rule, .int .i64 p.at_, .int .i64 p.fin, .int .i64 p.fr, .int .i64 p.to, .slice X p.kids.length c] 103 ∧ (0 < p.kids.length → X = some (ad X)) ∧ p.kids.length ≤ c ∧ KidsAt F w p.kids X 0 := by
  cases p with
  | mk non rule a e f t ks =>
    simp only [PartAt] at h
    obtain ⟨_, X, c, h1, h2, h3, h4⟩ := h
    exact ⟨X, c, h1, fun hp => (h2 hp).1, h3, h4⟩
def AllPt (F : Nat → Prop) (w : World) (ps : List PT) (bs : List Nat) : Prop := bs.length = ps.length ∧ ∀ i, i < ps.length → PartAt F w (ptn ps i) (bs.getD i 0)
theorem AllPt.gr {F : Nat → Prop} {w w' : World} {ps : List PT} {bs : List Nat} (h : AllPt F w ps bs) (g : Gr w w') : AllPt F w' ps bs := ⟨h.1, fun i hi => PartAt.gr g _ _ (h.2 i hi)⟩
theorem AllPt.append {F : Nat → Prop} {w : World} {ps qs : List PT} {bs cs : List Nat} (h : AllPt F w ps bs) (g : AllPt F w qs cs) : AllPt F w (ps ++ qs) (bs ++ cs) := by
  refine ⟨by simp [h.1, g.1], fun i hi => ?_⟩
  by_cases hl : i < ps.length
  · have := h.2 i hl
    have hb := h.1
    simpa [ptn, List.getD_eq_getElem?_getD, List.getElem?_append_left hl, List.getElem?_append_left (show i < bs.length by omega)] using this
  · rw [List.length_append] at hi
    have := g.2 (i - ps.length) (by omega)
    have hb := h.1
    rw [show ptn (ps ++ qs) i = ptn qs (i - ps.length) from by simp [ptn, List.getD_eq_getElem?_getD, List.getElem?_append_right (show ps.length ≤ i by omega)]]
    rw [show (bs ++ cs).getD i 0 = cs.getD (i - ps.length) 0 from by simp [List.getD_eq_getElem?_getD, List.getElem?_append_right (show bs.length ≤ i by omega), hb]]
    exact this
theorem AllPt.one {F : Nat → Prop} {w : World} {p : PT} {b : Nat} (h : PartAt F w p b) : AllPt F w [p] [b] := ⟨rfl, fun i hi => by
  obtain rfl : i = 0 := by simpa using hi
  exact h⟩

def sizesOK (P : Program) : List Field → List (Nat × Nat) → Prop
  | [], [] => True
  | f :: fs, p :: ps => (f.offset = p.1 ∧ szOf P f.type p.2) ∧ sizesOK P fs ps
  | _, _ => False
theorem run_places {P : Program} (w : World) : ∀ (fs : List Field) (ps : List (Nat × Nat)), sizesOK P fs ps → (fs.mapM (m := Sem) fun f => do pure (f.offset, ← sizeOf f.type)).run P w = .ok ps w := by
  intro fs
  induction fs with
  | nil =>
    intro ps h
    cases ps with
    | nil => rfl
    | cons p ps => exact h.elim
  | cons f fs ih =>
    intro ps h
    cases ps with
    | nil => exact h.elim
    | cons p ps =>
      obtain ⟨⟨h1, h2⟩, h3⟩ := h
      rw [List.mapM_cons]
      simp only [Sem.run_bind, zec_ h2, Result.andThen, Sem.run_pure, ih ps h3, h1]
theorem zvk_ {P : Program} {S : WS} {k : Value → Prop} {t sz by' : Nat} {z : Value} {fs : Array Field} {ps : List (Nat × Nat)} {qs : List (Nat × Value)} {cells : Array Value} (ht : P.underlying t = some (.struct fs)) (H : Inf P t z sz by') (hs : sizesOK P fs.toList ps) (hf : Instr.fill (ps.toArray[·]?) z.cells qs = some cells) : Rd P S (zw_ t qs) k = k (.agg cells) := ztb_ fun w _ => by
  obtain ⟨i, hi, hz, _, _⟩ := H
  have e0 : (zeroValue t).run P w = .ok z w := by simp [zeroValue, zpe_ hi, hz]
  have e1 : (fs.mapM (m := Sem) fun f => do pure (f.offset, ← sizeOf f.type)).run P w = .ok ps.toArray w := by
    rw [Array.mapM_eq_mapM_toList, Sem.run_map, run_places w fs.toList ps hs]
    rfl
  simp only [zw_, Instr.build, Sem.run_bind, e0, Result.andThen, run_underlying ht, e1, hf]
  rfl
end Go.Sh
namespace Go.Proofs.Yteabbgaffgpegaa
open Go Go.Sh
theorem inf103' : Inf Try.prog 103 (.agg #[.int .i64 0, .int .i64 0, .int .i64 0, .int .i64 0, .int .i64 0, .int .i64 0, .slice none 0 0]) 7 72 := zxe_ (by kernel_rfl)
theorem bd103 {S : WS} {k : Value → Prop} {qs : List (Nat × Value)} {cells : Array Value} (hf : Instr.fill (#[(0, 1), (1, 1), (2, 1), (3, 1), (4, 1), (5, 1), (6, 1)][·]?) #[.int .i64 0, .int .i64 0, .int .i64 0, .int .i64 0, .int .i64 0, .int .i64 0, .slice none 0 0] qs = some cells) : Rd Try.prog S (zw_ 103 qs) k = k (.agg cells) :=
  zvk_ (ps := [(0, 1), (1, 1), (2, 1), (3, 1), (4, 1), (5, 1), (6, 1)]) Try.underlying103 inf103' ⟨⟨rfl, sz3⟩, ⟨rfl, sz3⟩, ⟨rfl, sz3⟩, ⟨rfl, sz3⟩, ⟨rfl, sz3⟩, ⟨rfl, sz3⟩, ⟨rfl, sz101⟩, trivial⟩ hf
end Go.Proofs.Yteabbgaffgpegaa

namespace Go.Sh
open Go Go.ChangeShapes Go.WideShapes Go.ChangeAt Go.RowKit
theorem below_of_gr {w w' : World} (g : Gr w w') : Below w.heap.size w w' := ⟨g.os, g.tape, g.output, g.size, fun k hk => g.block k hk (by simp)⟩
theorem walk_of {P : Program} {g : FuncId} (hb : zth_ P g) {args : List Value} {w : World} (h : ∀ k : Value → World → Prop, (∀ w', Gr w w' → k (.bool true) w') → CallK P g args k w) :
    Calls P g args.toArray w fun e w' => e = .returned (.bool true) ∧ Below w.heap.size w w' :=
  ((h (fun v w' => v = .bool true ∧ Gr w w') (fun w' g => ⟨rfl, g⟩)).calls hb).mono fun e w' he => by
    cases e with
    | returned v => exact ⟨by rw [he.1], below_of_gr he.2⟩
    | panicked c => exact he.elim
    | outgrown => exact he.elim

section
variable {H : Type} {enc : TypeId × Value → H} {P : Program} {w : World} {base : Nat} {spare : Nat → Bool} {held : Bool}
end
open Go Go.ChangeAt Go.ChangeShapes Go.WideShapes
section
variable {P : Program} {S : WS} {k : Value → Prop}
theorem bin_shr {t : TypeId} {c : Bool} {kd yk : IntKind} {x y : Int} (hy : 0 ≤ y) : Rd P S (sBin .shr t c (.int kd x) (.int yk y)) k = k (.int kd (x.fdiv (2 ^ (min y.toNat kd.bits)))) := ztb_ fun w _ => by
  simp only [sBin, Sem.run_bind, zmk_, Result.andThen]
  have : ¬ y < 0 := by omega
  simp [binOp, Op.shift, this]
theorem bin_and {t : TypeId} {c : Bool} {kd : IntKind} {x y : Int} : Rd P S (sBin .and t c (.int kd x) (.int kd y)) k = k (.int kd (kd.wrap ((BitVec.ofInt kd.bits x &&& BitVec.ofInt kd.bits y).toNat : Int))) := zae_ fun w => by
  simp [binOp, Op.intBits]
theorem run_convert {s d : TypeId} {kd kn : IntKind} {n : Int} {ds : TypeDesc} (hs : P.underlying s = some ds) (hd : P.underlying d = some (.int kd)) (w : World) : (zme_ s d (.int kn n)).run P w = .ok (.value (.int kd (kd.wrap n))) w := by
  simp only [zme_, convert, Sem.run_bind, run_underlying hs, run_underlying hd, Result.andThen]
  cases ds <;> simp [Conv.intToInt]
theorem zah_ {k : Value → World → Prop} {s d : TypeId} {kd kn : IntKind} {n : Int} {ds : TypeDesc} {w : World} (hs : P.underlying s = some ds) (hd : P.underlying d = some (.int kd)) (h : k (.int kd (kd.wrap n)) w) : Do P (zme_ s d (.int kn n)) k w := by
  rw [zuc_ (run_convert hs hd w)]
  exact h
end
theorem and255 (x : Int) : 0 ≤ IntKind.u64.wrap ((BitVec.ofInt IntKind.u64.bits x &&& BitVec.ofInt IntKind.u64.bits 255).toNat : Int) ∧ IntKind.u64.wrap ((BitVec.ofInt IntKind.u64.bits x &&& BitVec.ofInt IntKind.u64.bits 255).toNat : Int) ≤ 255 := by
  have h : (BitVec.ofInt IntKind.u64.bits x &&& BitVec.ofInt IntKind.u64.bits 255).toNat ≤ 255 := by
    rw [BitVec.toNat_and]
    exact Nat.le_trans Nat.and_le_right (by decide)
  have e : IntKind.u64.wrap ((BitVec.ofInt IntKind.u64.bits x &&& BitVec.ofInt IntKind.u64.bits 255).toNat : Int) = ((BitVec.ofInt IntKind.u64.bits x &&& BitVec.ofInt IntKind.u64.bits 255).toNat : Int) := by
    generalize (BitVec.ofInt IntKind.u64.bits x &&& BitVec.ofInt IntKind.u64.bits 255).toNat = n at *
    simp [IntKind.wrap, IntKind.bits, IntKind.signed]
    omega
  rw [e]
  omega
structure Byts (w : World) (X : Option Addr) (bs : List Int) : Prop where
  le : bs.length ≤ 9223372036854775807
  ptr : 0 < bs.length → X = some (ad X)
  cell : ∀ j, j < bs.length → w.cell? ((ad X).add j) = some (.int .u8 (bs.getD j 0))
  small : ∀ j, j < bs.length → 0 ≤ bs.getD j 0 ∧ bs.getD j 0 ≤ 255
theorem Byts.gr {w w' : World} {X : Option Addr} {bs : List Int} (h : Byts w X bs) (g : Gr w w') : Byts w' X bs := ⟨h.le, h.ptr, fun j hj => g.cell (h.cell j hj), h.small⟩
section
variable {H : Type} {enc : TypeId × Value → H} {P : Program} {w : World} {base : Nat} {spare : Nat → Bool} {held : Bool}
theorem wf8 {n : Int} (h : (Lit.int .u8 n).wf = true) : 0 ≤ n ∧ n ≤ 255 := by
  simp [Lit.wf, show IntKind.u8.min = 0 from rfl, show IntKind.u8.max = 255 from rfl] at h
  exact h
theorem read_bytes {t e : TypeId} (ht : P.underlying t = some (.slice e)) (he : P.underlying e = some (.int .u8)) (hc : P.cellsOf e = 1) {fuel : Nat} {cs : List Value} {x : DataW H × List MemPlace}
    (h : DataW.trod enc P w base spare held fuel t cs = some x) : ∃ X n c bs, cs = [.slice X n c] ∧ n = bs.length ∧ n ≤ c ∧ Byts w X bs := by
  rcases open_ints ht he hc h with ⟨hcs, _⟩ | ⟨a, l, c, zs, hcs, _, hl, hm, hz, _, hcell, hwz⟩
  · exact ⟨none, 0, 0, [], hcs, rfl, Nat.le_refl _, by simp, fun h => by simp at h, fun j hj => by simp at hj, fun j hj => by simp at hj⟩
  · have hzl : l ≤ zs.length := by rw [hz]; split <;> omega
    have hget : ∀ j, j < (zs.take l).length → j < zs.length ∧ (zs.take l).getD j 0 = zs.getD j 0 := fun j hj => by
      have hj' : j < l ∧ j < zs.length := by simp at hj; omega
      exact ⟨hj'.2, by simp [List.getD_eq_getElem?_getD, List.getElem?_take, hj'.1]⟩
    refine ⟨some a, l, c, zs.take l, hcs, by simp; omega, hl, ?_, fun _ => rfl, fun j hj => ?_, fun j hj => ?_⟩
    · unfold maxLen at hm
      simp
      omega
    · obtain ⟨h1, h2⟩ := hget j hj
      rw [show (ad (some a)).add j = a.add j from rfl, hcell j h1, h2]
    · obtain ⟨h1, h2⟩ := hget j hj
      rw [h2]
      refine wf8 (hwz _ ?_)
      rw [List.getD_eq_getElem?_getD, List.getElem?_eq_getElem h1]
      exact List.getElem_mem h1
theorem zkj_ {t e : TypeId} {v : Value} {d : DataW H} {p : List MemPlace} (ht : P.underlying t = some (.slice e)) (he : P.underlying e = some (.int .u8)) (hc : P.cellsOf e = 1)
    (h : DataW.Trod enc P w base spare held t v d p) : ∃ X n c bs, v.cells.toList = [.slice X n c] ∧ n = bs.length ∧ n ≤ c ∧ Byts w X bs := by
  obtain ⟨fuel, hf⟩ := h
  exact read_bytes ht he hc hf
end
def curi (tc bc : Nat) (cv : Value) (N : Nat) : Thing := ⟨fun w => ∃ a s : Int, 0 ≤ a ∧ a ≤ N ∧ Box w bc [cv, .int .i64 a, .int .u64 s] tc, fun q => q = bc⟩
section
variable {w0 w : World} {L : List Thing} {tc bc N : Nat} {cv : Value}
theorem Apt.openCur (H : Apt w0 w L) (i : Nat) (hi : L[i]? = some (curi tc bc cv N)) : ∃ a s : Int, 0 ≤ a ∧ a ≤ N ∧ Apt w0 w (L.set i (bx bc [cv, .int .i64 a, .int .u64 s] tc)) := by
  obtain ⟨a, s, h1, h2, h3⟩ := H.get i hi
  exact ⟨a, s, h1, h2, H.set hi (it' := bx bc [cv, .int .i64 a, .int .u64 s] tc) (Gx.refl _ w) (fun q hq => .inl hq) (fun q hq => (H.ok i _ hi).hi q hq) (zwh_ h3)⟩
theorem Apt.shutCur (H : Apt w0 w L) (i : Nat) {a s : Int} (hi : L[i]? = some (bx bc [cv, .int .i64 a, .int .u64 s] tc)) (h1 : 0 ≤ a) (h2 : a ≤ N) : Apt w0 w (L.set i (curi tc bc cv N)) :=
  H.weaken i hi (fun q hq => hq) (fun w' _ hb => ⟨a, s, h1, h2, hb⟩) fun w' w'' hs ⟨a, s, h1, h2, h3⟩ => ⟨a, s, h1, h2, zwh_ h3 w'' hs⟩
end
end Go.Sh

namespace Go.Proofs.Yteabbgaffgpegaa
open Go Go.Sh

def pl69 : Plans := fun _ => ⟨false, [], .nil⟩
def S69 (v0 v1 : Value) (k : Value → World → Prop) (w : World) : Prop :=
 Rd Try.prog (WS.at w) (zc_ .len #[27] 3 [false] [v1]) fun t1 =>
 CallK Try.prog 57 [v0, t1] (fun t2 w3 =>
 Rd Try.prog (WS.at w3) (zf_ 27 v1 t2) fun t4 =>
 Rd Try.prog (WS.at w3) (zd_ 3 t4) fun t5 =>
 k t5 w3) w
theorem body69 : Try.f69.body = some (zi_ Try.f69) := by kernel_rfl
theorem same69 (v0 v1 : Value) (k : Value → World → Prop) (w : World) : wpF Try.prog pl69 (zi_ Try.f69) (zv_ Try.prog Try.f69.results.toList k) (zr_ [v0, v1]) w = S69 v0 v1 k w := by kernel_rfl
theorem enter69 {v0 v1 : Value} {k : Value → World → Prop} {w : World} (h : S69 v0 v1 k w) : CallK Try.prog 69 [v0, v1] k w :=
  zk_ (pl := pl69) zdb_ Try.func69 body69 (by kernel_rfl) (of_decide_eq_true (by kernel_rfl)) (by kernel_rfl) (by kernel_rfl) (Eq.mpr (same69 v0 v1 k w) h)

def pl56 : Plans := fun i => match i with
  | 8 => ⟨true, [7, 9], .step 0 .any (.step 1 .held (.step 2 .any (.step 3 .held (.step 4 .any (.step 5 .held (.step 6 .one (.step 7 .last (.step 8 .any (.step 9 .last (.nil))))))))))⟩
  | 10 => ⟨true, [7], .step 0 .any (.step 1 .held (.step 2 .any (.step 3 .one (.step 4 .any (.step 5 .any (.step 6 .any (.step 7 .last (.nil))))))))⟩
  | _ => ⟨false, [], .nil⟩
def S56 (v0 : Value) (k : Value → World → Prop) (w : World) : Prop :=
 Do Try.prog (zkb_ 26) (fun t1 w2 =>
 CallK Try.prog 116 [v0] (fun t3 w4 =>
 Do Try.prog (zkb_ 26) (fun t5 w6 =>
 Do Try.prog (zab_ 26 t5 t3) (fun _ w7 =>
 Join (fun K8 =>
 CallK Try.prog 57 [v0, (.int .i64 40)] (fun t11 w12 =>
 Rd Try.prog (WS.at w12) (sBin .eql 3 true t11 (.int .i64 0)) fun t13 =>
 zm_ t13
  (Do Try.prog (zh_ 27 3 [(0, (.int .i64 0)), (1, (.int .i64 6)), (2, (.int .i64 7))]) (fun t14 w15 =>
  CallK Try.prog 69 [v0, t14] (fun t16 w17 =>
  Rd Try.prog (WS.at w17) (za_ 26 t5 0) fun t18 =>
  Do Try.prog (zab_ 3 t18 t16) (fun _ w19 =>
  K8 (F.upd (F.upd (F.upd (F.upd (F.upd (F.upd (F.upd (F.upd (F.upd (F.upd (F.upd (F.upd (zr_ [v0]) 2 t1) 4 v0) 5 t3) 3 t5) 6 v0) 7 t11) 9 t13) 8 t13) 10 v0) 11 t14) 12 t16) 13 t18) w19) w17) w15) w12)
  (Rd Try.prog (WS.at w12) (sBin .eql 3 true t11 (.int .i64 1)) fun t20 =>
  zm_ t20
   (Do Try.prog (zh_ 27 3 [(0, (.int .i64 0)), (1, (.int .i64 4)), (2, (.int .i64 5))]) (fun t21 w22 =>
   CallK Try.prog 69 [v0, t21] (fun t23 w24 =>
   Rd Try.prog (WS.at w24) (za_ 26 t5 1) fun t25 =>
   Do Try.prog (zab_ 3 t25 t23) (fun _ w26 =>
   K8 (F.upd (F.upd (F.upd (F.upd (F.upd (F.upd (F.upd (F.upd (F.upd (F.upd (F.upd (F.upd (F.upd (F.upd (zr_ [v0]) 2 t1) 4 v0) 5 t3) 3 t5) 6 v0) 7 t11) 9 t13) 8 t13) 15 t20) 14 t20) 16 v0) 17 t21) 18 t23) 19 t25) w26) w24) w22) w12)
   (Rd Try.prog (WS.at w12) (sBin .eql 3 true t11 (.int .i64 2)) fun t27 =>
   zm_ t27
    (∃ U28 : World → Prop, ∃ h29 : U28 w12.drew,
    Rd Try.prog WS.any (za_ 26 t5 2) fun t30 =>
    Rd Try.prog ⟨U28, w12.drew, h29⟩ (zd_ 24 t30) fun t31 =>
    Rd Try.prog WS.any (za_ 26 t5 2) fun t32 =>
    Rd Try.prog ⟨U28, w12.drew, h29⟩ (zd_ 24 t32) fun t33 =>
    Rd Try.prog WS.any (zf_ 24 t33 (.int .i64 0)) fun t34 =>
    Rd Try.prog ⟨U28, w12.drew, h29⟩ (zd_ 106 t34) fun t35 =>
    Do Try.prog (zh_ 24 1 [(0, t35)]) (fun t36 w37 =>
    U28 w37 ∧ Do Try.prog (zc_ .append #[24, 24] 24 [false, false] [t31, t36]) (fun t38 w39 =>
    Rd Try.prog WS.any (za_ 26 t5 2) fun t40 =>
    Do Try.prog (zab_ 24 t40 t38) (fun _ w41 =>
    K8 (F.upd (F.upd (F.upd (F.upd (F.upd (F.upd (F.upd (F.upd (F.upd (F.upd (F.upd (F.upd (F.upd (F.upd (F.upd (F.upd (F.upd (F.upd (F.upd (F.upd (F.upd (zr_ [v0]) 2 t1) 4 v0) 5 t3) 3 t5) 6 v0) 7 t11) 9 t13) 8 t13) 15 t20) 14 t20) 21 t27) 20 t27) 22 t30) 23 t31) 24 t32) 25 t33) 26 t34) 27 t35) 28 t36) 29 t38) 30 t40) w41) w39) w37) w12.drew)
    (Rd Try.prog (WS.at w12) (sBin .eql 3 true t11 (.int .i64 3)) fun t42 =>
    zm_ t42
     (∃ U43 : World → Prop, ∃ h44 : U43 w12.drew,
     Rd Try.prog WS.any (za_ 26 t5 2) fun t45 =>
     Rd Try.prog ⟨U43, w12.drew, h44⟩ (zd_ 24 t45) fun t46 =>
     CallK Try.prog 57 [v0, (.int .i64 8)] (fun t47 w48 =>
     U43 w48 ∧ Rd Try.prog WS.any (sBin .sub 3 true t47 (.int .i64 1)) fun t49 =>
     Rd Try.prog WS.any (zf_ 24 t46 (.int .i64 0)) fun t50 =>
     Rd Try.prog WS.any (za_ 106 t50 0) fun t51 =>
     Do Try.prog (zab_ 3 t51 t49) (fun _ w52 =>
     K8 (F.upd (F.upd (F.upd (F.upd (F.upd (F.upd (F.upd (F.upd (F.upd (F.upd (F.upd (F.upd (F.upd (F.upd (F.upd (F.upd (F.upd (F.upd (F.upd (F.upd (F.upd (zr_ [v0]) 2 t1) 4 v0) 5 t3) 3 t5) 6 v0) 7 t11) 9 t13) 8 t13) 15 t20) 14 t20) 21 t27) 20 t27) 32 t42) 31 t42) 33 t45) 34 t46) 35 v0) 36 t47) 37 t49) 38 t50) 39 t51) w52) w48) w12.drew)
     (K8 (F.upd (F.upd (F.upd (F.upd (F.upd (F.upd (F.upd (F.upd (F.upd (F.upd (F.upd (F.upd (F.upd (F.upd (zr_ [v0]) 2 t1) 4 v0) 5 t3) 3 t5) 6 v0) 7 t11) 9 t13) 8 t13) 15 t20) 14 t20) 21 t27) 20 t27) 32 t42) 31 t42) w12))))) w7) (fun f9 w10 =>
 Rd Try.prog (WS.at w10) (zd_ 26 (f9 3)) fun t53 =>
 Do Try.prog (zab_ 26 (f9 2) t53) (fun _ w54 =>
 Rd Try.prog (WS.at w54) (zwb_ 26 (f9 2)) fun t55 => k t55 w54) w10)) w6) w4) w2) w
theorem body56 : Try.f56.body = some (zi_ Try.f56) := by kernel_rfl
theorem same56 (v0 : Value) (k : Value → World → Prop) (w : World) : wpF Try.prog pl56 (zi_ Try.f56) (zv_ Try.prog Try.f56.results.toList k) (zr_ [v0]) w = S56 v0 k w := by kernel_rfl
theorem enter56 {v0 : Value} {k : Value → World → Prop} {w : World} (h : S56 v0 k w) : CallK Try.prog 56 [v0] k w :=
  zk_ (pl := pl56) zdb_ Try.func56 body56 (by kernel_rfl) (of_decide_eq_true (by kernel_rfl)) (by kernel_rfl) (by kernel_rfl) (Eq.mpr (same56 v0 k w) h)

def pl116 : Plans := fun _ => ⟨false, [], .nil⟩
def S116 (v0 : Value) (k : Value → World → Prop) (w : World) : Prop :=
 Do Try.prog (zkb_ 26) (fun t1 w2 =>
 CallK Try.prog 60 [v0, (.int .i64 2)] (fun t3 w4 =>
 zm_ t3
  (CallK Try.prog 149 [v0] (fun t5 w6 =>
  Do Try.prog (zab_ 26 t1 t5) (fun _ w7 =>
  Rd Try.prog (WS.at w7) (zwb_ 26 t1) fun t8 => k t8 w7) w6) w4)
  (CallK Try.prog 57 [v0, (.int .i64 3)] (fun t9 w10 =>
  Rd Try.prog (WS.at w10) (sBin .add 3 true (.int .i64 1) t9) fun t11 =>
  CallK Try.prog 57 [v0, (.int .i64 2)] (fun t12 w13 =>
  Rd Try.prog (WS.at w13) (sBin .add 3 true (.int .i64 1) t12) fun t14 =>
  Rd Try.prog (WS.at w13) (zw_ 26 [(0, t11), (1, t14)]) fun t15 =>
  Do Try.prog (zkb_ 26) (fun t16 w17 =>
  Do Try.prog (zab_ 26 t16 t15) (fun _ w18 =>
  CallK Try.prog 57 [v0, (.int .i64 6)] (fun t19 w20 =>
  Rd Try.prog (WS.at w20) (sBin .add 3 true (.int .i64 1) t19) fun t21 =>
  zrb_ [22, 23, 26, 27, 28, 29, 30, 5, 31, 32, 6, 33, 34, 37, 38, 39, 40, 7, 41, 42, 43, 44, 45, 46, 47, 7, 48, 49, 50, 51, 52, 53, 35, 36, 6, 54, 55, 56, 57, 58, 24, 25, 4] (fun Q22 f23 w24 =>
   Rd Try.prog (WS.at w24) (sBin .gtr 3 true (f23 4) (.int .i64 0)) fun t25 =>
   zm_ t25
    (Rd Try.prog (WS.at w24) (za_ 26 (f23 3) 0) fun t26 =>
    Rd Try.prog (WS.at w24) (zd_ 3 t26) fun t27 =>
    CallK Try.prog 57 [(f23 0), t27] (fun t28 w29 =>
    Rd Try.prog (WS.at w29) (zw_ 106 [(0, t28)]) fun t30 =>
    Do Try.prog (zkb_ 106) (fun t31 w32 =>
    Do Try.prog (zab_ 106 t31 t30) (fun _ w33 =>
    CallK Try.prog 57 [(f23 0), (.int .i64 4)] (fun t34 w35 =>
    zrb_ [33, 34, 37, 38, 39, 40, 7, 41, 42, 43, 44, 45, 46, 47, 7, 48, 49, 50, 51, 52, 53, 35, 36, 6] (fun Q36 f37 w38 =>
     Rd Try.prog (WS.at w38) (sBin .gtr 3 true (f37 6) (.int .i64 0)) fun t39 =>
     zm_ t39
      (Join (fun K40 =>
      Rd Try.prog (WS.at w38) (za_ 26 (f37 3) 0) fun t43 =>
      Rd Try.prog (WS.at w38) (zd_ 3 t43) fun t44 =>
      CallK Try.prog 57 [(f37 0), t44] (fun t45 w46 =>
      Join (fun K47 =>
      CallK Try.prog 60 [(f37 0), (.int .i64 2)] (fun t50 w51 =>
      zm_ t50
       (Rd Try.prog (WS.at w51) (za_ 26 (f37 3) 1) fun t52 =>
       Rd Try.prog (WS.at w51) (zd_ 3 t52) fun t53 =>
       CallK Try.prog 57 [(f37 0), t53] (fun t54 w55 =>
       Rd Try.prog (WS.at w55) (sBin .sub 3 true (.int .i64 (-1)) t54) fun t56 =>
       K47 (F.upd (F.upd (F.upd (F.upd (F.upd (F.upd (F.upd (F.upd (F.upd (F.upd (F.upd (F.upd (F.upd (F.upd (F.upd f37 33 (f37 6)) 34 t39) 37 (f37 0)) 38 t43) 39 t44) 40 t45) 7 t45) 41 (f37 0)) 42 t50) 43 (f37 0)) 44 t52) 45 t53) 46 t54) 47 t56) 7 t56) w55) w51)
       (K47 (F.upd (F.upd (F.upd (F.upd (F.upd (F.upd (F.upd (F.upd (F.upd f37 33 (f37 6)) 34 t39) 37 (f37 0)) 38 t43) 39 t44) 40 t45) 7 t45) 41 (f37 0)) 42 t50) w51)) w46) (fun f48 w49 =>
      Rd Try.prog (WS.at w49) (za_ 106 (f48 5) 1) fun t57 =>
      Rd Try.prog (WS.at w49) (zd_ 27 t57) fun t58 =>
      Do Try.prog (zh_ 27 1 [(0, (f48 7))]) (fun t59 w60 =>
      Do Try.prog (zc_ .append #[27, 27] 27 [false, false] [t58, t59]) (fun t61 w62 =>
      Rd Try.prog (WS.at w62) (za_ 106 (f48 5) 1) fun t63 =>
      Do Try.prog (zab_ 27 t63 t61) (fun _ w64 =>
      K40 (F.upd (F.upd (F.upd (F.upd (F.upd (F.upd f48 48 t57) 49 t58) 50 (f48 7)) 51 t59) 52 t61) 53 t63) w64) w62) w60) w49)) w38) (fun f41 w42 =>
      Rd Try.prog (WS.at w42) (sBin .sub 3 true (f41 6) (.int .i64 1)) fun t65 =>
      Q36 .normal (F.upd (F.upd (F.upd f41 35 (f41 6)) 36 t65) 6 t65) w42))
      (Q36 (.exit 2) (F.upd (F.upd f37 33 (f37 6)) 34 t39) w38))
     (zgb_ 2 (seqQ (fun f66 w67 =>
    Rd Try.prog (WS.at w67) (za_ 26 (f66 3) 2) fun t68 =>
    Rd Try.prog (WS.at w67) (zd_ 24 t68) fun t69 =>
    Rd Try.prog (WS.at w67) (zd_ 106 (f66 5)) fun t70 =>
    CallK Try.prog 150 [t69, t70] (fun t71 w72 =>
    Rd Try.prog (WS.at w72) (za_ 26 (f66 3) 2) fun t73 =>
    Do Try.prog (zab_ 24 t73 t71) (fun _ w74 =>
    Rd Try.prog (WS.at w74) (sBin .sub 3 true (f66 4) (.int .i64 1)) fun t75 =>
    Q22 .normal (F.upd (F.upd (F.upd (F.upd (F.upd (F.upd (F.upd (F.upd f66 54 t68) 55 t69) 56 t70) 57 t71) 58 t73) 24 (f66 4)) 25 t75) 4 t75) w74) w72) w67) (zgb_ 1 (seqQ (fun f76 w77 =>
    Rd Try.prog (WS.at w77) (sBin .sub 3 true (f76 4) (.int .i64 1)) fun t78 =>
    Q22 .normal (F.upd (F.upd (F.upd f76 24 (f76 4)) 25 t78) 4 t78) w77) Q22))))
     (F.upd (F.upd (F.upd (F.upd (F.upd (F.upd (F.upd (F.upd (F.upd (F.upd (F.upd f23 22 (f23 4)) 23 t25) 26 (f23 0)) 27 t26) 28 t27) 29 t28) 30 t30) 5 t31) 31 (f23 0)) 32 t34) 6 t34) w35) w33) w32) w29) w24)
    (Q22 (.exit 0) (F.upd (F.upd f23 22 (f23 4)) 23 t25) w24))
   (zgb_ 0 (seqQ (fun f79 w80 =>
  Rd Try.prog (WS.at w80) (zd_ 26 (f79 3)) fun t81 =>
  Do Try.prog (zab_ 26 (f79 2) t81) (fun _ w82 =>
  Rd Try.prog (WS.at w82) (zwb_ 26 (f79 2)) fun t83 => k t83 w82) w80) (zv_ Try.prog [.cell 2 26] k)))
   (F.upd (F.upd (F.upd (F.upd (F.upd (F.upd (F.upd (F.upd (F.upd (F.upd (F.upd (F.upd (F.upd (F.upd (F.upd (zr_ [v0]) 2 t1) 8 v0) 9 t3) 12 v0) 13 t9) 14 t11) 15 v0) 16 t12) 17 t14) 18 t15) 3 t16) 19 v0) 20 t19) 21 t21) 4 t21) w20) w18) w17) w13) w10) w4)) w2) w
theorem body116 : Try.f116.body = some (zi_ Try.f116) := by kernel_rfl
theorem same116 (v0 : Value) (k : Value → World → Prop) (w : World) : wpF Try.prog pl116 (zi_ Try.f116) (zv_ Try.prog Try.f116.results.toList k) (zr_ [v0]) w = S116 v0 k w := by kernel_rfl
theorem enter116 {v0 : Value} {k : Value → World → Prop} {w : World} (h : S116 v0 k w) : CallK Try.prog 116 [v0] k w :=
  zk_ (pl := pl116) zdb_ Try.func116 body116 (by kernel_rfl) (of_decide_eq_true (by kernel_rfl)) (by kernel_rfl) (by kernel_rfl) (Eq.mpr (same116 v0 k w) h)

def pl149 : Plans := fun _ => ⟨false, [], .nil⟩
def S149 (v0 : Value) (k : Value → World → Prop) (w : World) : Prop :=
 Do Try.prog (zkb_ 26) (fun t1 w2 =>
 CallK Try.prog 57 [v0, (.int .i64 8)] (fun t3 w4 =>
 Rd Try.prog (WS.at w4) (sBin .eql 3 true t3 (.int .i64 0)) fun t5 =>
 zm_ t5
  (Do Try.prog (zh_ 27 3 [(0, (.int .i64 (-1))), (1, (.int .i64 0)), (2, (.int .i64 (-2)))]) (fun t6 w7 =>
  Rd Try.prog (WS.at w7) (zw_ 106 [(1, t6)]) fun t8 =>
  Rd Try.prog (WS.at w7) (zw_ 106 []) fun t9 =>
  Do Try.prog (zh_ 24 2 [(0, t8), (1, t9)]) (fun t10 w11 =>
  Rd Try.prog (WS.at w11) (zw_ 26 [(0, (.int .i64 1)), (1, (.int .i64 2)), (2, t10)]) fun t12 =>
  Do Try.prog (zab_ 26 t1 t12) (fun _ w13 =>
  Rd Try.prog (WS.at w13) (zwb_ 26 t1) fun t14 => k t14 w13) w11) w7) w4)
  (Rd Try.prog (WS.at w4) (sBin .eql 3 true t3 (.int .i64 1)) fun t15 =>
  zm_ t15
   (Do Try.prog (zh_ 27 2 [(0, (.int .i64 0)), (1, (.int .i64 0))]) (fun t16 w17 =>
   Rd Try.prog (WS.at w17) (zw_ 106 [(1, t16)]) fun t18 =>
   Do Try.prog (zh_ 27 3 [(0, (.int .i64 (-1))), (1, (.int .i64 0)), (2, (.int .i64 (-2)))]) (fun t19 w20 =>
   Rd Try.prog (WS.at w20) (zw_ 106 [(1, t19)]) fun t21 =>
   Do Try.prog (zh_ 27 2 [(0, (.int .i64 (-1))), (1, (.int .i64 (-2)))]) (fun t22 w23 =>
   Rd Try.prog (WS.at w23) (zw_ 106 [(1, t22)]) fun t24 =>
   Do Try.prog (zh_ 24 3 [(0, t18), (1, t21), (2, t24)]) (fun t25 w26 =>
   Rd Try.prog (WS.at w26) (zw_ 26 [(0, (.int .i64 1)), (1, (.int .i64 2)), (2, t25)]) fun t27 =>
   Do Try.prog (zab_ 26 t1 t27) (fun _ w28 =>
   Rd Try.prog (WS.at w28) (zwb_ 26 t1) fun t29 => k t29 w28) w26) w23) w20) w17) w4)
   (Rd Try.prog (WS.at w4) (sBin .eql 3 true t3 (.int .i64 2)) fun t30 =>
   zm_ t30
    (Do Try.prog (zh_ 27 3 [(0, (.int .i64 0)), (1, (.int .i64 (-3))), (2, (.int .i64 1))]) (fun t31 w32 =>
    Rd Try.prog (WS.at w32) (zw_ 106 [(1, t31)]) fun t33 =>
    Do Try.prog (zh_ 27 1 [(0, (.int .i64 1))]) (fun t34 w35 =>
    Rd Try.prog (WS.at w35) (zw_ 106 [(1, t34)]) fun t36 =>
    Do Try.prog (zh_ 27 1 [(0, (.int .i64 (-1)))]) (fun t37 w38 =>
    Rd Try.prog (WS.at w38) (zw_ 106 [(0, (.int .i64 1)), (1, t37)]) fun t39 =>
    Do Try.prog (zh_ 27 3 [(0, (.int .i64 (-2))), (1, (.int .i64 0)), (2, (.int .i64 (-2)))]) (fun t40 w41 =>
    Rd Try.prog (WS.at w41) (zw_ 106 [(0, (.int .i64 1)), (1, t40)]) fun t42 =>
    Do Try.prog (zh_ 24 4 [(0, t33), (1, t36), (2, t39), (3, t42)]) (fun t43 w44 =>
    Rd Try.prog (WS.at w44) (zw_ 26 [(0, (.int .i64 2)), (1, (.int .i64 3)), (2, t43)]) fun t45 =>
    Do Try.prog (zab_ 26 t1 t45) (fun _ w46 =>
    Rd Try.prog (WS.at w46) (zwb_ 26 t1) fun t47 => k t47 w46) w44) w41) w38) w35) w32) w4)
    (Rd Try.prog (WS.at w4) (sBin .eql 3 true t3 (.int .i64 3)) fun t48 =>
    zm_ t48
     (Do Try.prog (zh_ 27 2 [(0, (.int .i64 (-1))), (1, (.int .i64 1))]) (fun t49 w50 =>
     Rd Try.prog (WS.at w50) (zw_ 106 [(1, t49)]) fun t51 =>
     Do Try.prog (zh_ 27 2 [(0, (.int .i64 (-2))), (1, (.int .i64 1))]) (fun t52 w53 =>
     Rd Try.prog (WS.at w53) (zw_ 106 [(0, (.int .i64 1)), (1, t52)]) fun t54 =>
     Do Try.prog (zh_ 27 1 [(0, (.int .i64 (-2)))]) (fun t55 w56 =>
     Rd Try.prog (WS.at w56) (zw_ 106 [(0, (.int .i64 1)), (1, t55)]) fun t57 =>
     Rd Try.prog (WS.at w56) (zw_ 106 [(0, (.int .i64 1))]) fun t58 =>
     Do Try.prog (zh_ 24 4 [(0, t51), (1, t54), (2, t57), (3, t58)]) (fun t59 w60 =>
     Rd Try.prog (WS.at w60) (zw_ 26 [(0, (.int .i64 2)), (1, (.int .i64 2)), (2, t59)]) fun t61 =>
     Do Try.prog (zab_ 26 t1 t61) (fun _ w62 =>
     Rd Try.prog (WS.at w62) (zwb_ 26 t1) fun t63 => k t63 w62) w60) w56) w53) w50) w4)
     (Rd Try.prog (WS.at w4) (sBin .eql 3 true t3 (.int .i64 4)) fun t64 =>
     zm_ t64
      (Do Try.prog (zh_ 27 1 [(0, (.int .i64 0))]) (fun t65 w66 =>
      Rd Try.prog (WS.at w66) (zw_ 106 [(1, t65)]) fun t67 =>
      Do Try.prog (zh_ 27 1 [(0, (.int .i64 1))]) (fun t68 w69 =>
      Rd Try.prog (WS.at w69) (zw_ 106 [(1, t68)]) fun t70 =>
      Do Try.prog (zh_ 27 2 [(0, (.int .i64 0)), (1, (.int .i64 1))]) (fun t71 w72 =>
      Rd Try.prog (WS.at w72) (zw_ 106 [(0, (.int .i64 1)), (1, t71)]) fun t73 =>
      Do Try.prog (zh_ 27 1 [(0, (.int .i64 (-1)))]) (fun t74 w75 =>
      Rd Try.prog (WS.at w75) (zw_ 106 [(0, (.int .i64 1)), (1, t74)]) fun t76 =>
      Rd Try.prog (WS.at w75) (zw_ 106 [(0, (.int .i64 1))]) fun t77 =>
      Do Try.prog (zh_ 24 5 [(0, t67), (1, t70), (2, t73), (3, t76), (4, t77)]) (fun t78 w79 =>
      Rd Try.prog (WS.at w79) (zw_ 26 [(0, (.int .i64 2)), (1, (.int .i64 1)), (2, t78)]) fun t80 =>
      Do Try.prog (zab_ 26 t1 t80) (fun _ w81 =>
      Rd Try.prog (WS.at w81) (zwb_ 26 t1) fun t82 => k t82 w81) w79) w75) w72) w69) w66) w4)
      (Rd Try.prog (WS.at w4) (sBin .eql 3 true t3 (.int .i64 5)) fun t83 =>
      zm_ t83
       (Do Try.prog (zh_ 27 3 [(0, (.int .i64 (-1))), (1, (.int .i64 0)), (2, (.int .i64 (-1)))]) (fun t84 w85 =>
       Rd Try.prog (WS.at w85) (zw_ 106 [(1, t84)]) fun t86 =>
       Do Try.prog (zh_ 27 3 [(0, (.int .i64 (-2))), (1, (.int .i64 0)), (2, (.int .i64 (-2)))]) (fun t87 w88 =>
       Rd Try.prog (WS.at w88) (zw_ 106 [(1, t87)]) fun t89 =>
       Do Try.prog (zh_ 27 1 [(0, (.int .i64 (-1)))]) (fun t90 w91 =>
       Rd Try.prog (WS.at w91) (zw_ 106 [(1, t90)]) fun t92 =>
       Do Try.prog (zh_ 27 1 [(0, (.int .i64 (-2)))]) (fun t93 w94 =>
       Rd Try.prog (WS.at w94) (zw_ 106 [(1, t93)]) fun t95 =>
       Rd Try.prog (WS.at w94) (zw_ 106 []) fun t96 =>
       Do Try.prog (zh_ 24 5 [(0, t86), (1, t89), (2, t92), (3, t95), (4, t96)]) (fun t97 w98 =>
       Rd Try.prog (WS.at w98) (zw_ 26 [(0, (.int .i64 1)), (1, (.int .i64 2)), (2, t97)]) fun t99 =>
       Do Try.prog (zab_ 26 t1 t99) (fun _ w100 =>
       Rd Try.prog (WS.at w100) (zwb_ 26 t1) fun t101 => k t101 w100) w98) w94) w91) w88) w85) w4)
       (Rd Try.prog (WS.at w4) (sBin .eql 3 true t3 (.int .i64 6)) fun t102 =>
       zm_ t102
        (Do Try.prog (zh_ 27 2 [(0, (.int .i64 1)), (1, (.int .i64 2))]) (fun t103 w104 =>
        Rd Try.prog (WS.at w104) (zw_ 106 [(1, t103)]) fun t105 =>
        Do Try.prog (zh_ 27 2 [(0, (.int .i64 (-1))), (1, (.int .i64 1))]) (fun t106 w107 =>
        Rd Try.prog (WS.at w107) (zw_ 106 [(0, (.int .i64 1)), (1, t106)]) fun t108 =>
        Rd Try.prog (WS.at w107) (zw_ 106 [(0, (.int .i64 1))]) fun t109 =>
        Do Try.prog (zh_ 27 2 [(0, (.int .i64 (-2))), (1, (.int .i64 2))]) (fun t110 w111 =>
        Rd Try.prog (WS.at w111) (zw_ 106 [(0, (.int .i64 2)), (1, t110)]) fun t112 =>
        Rd Try.prog (WS.at w111) (zw_ 106 [(0, (.int .i64 2))]) fun t113 =>
        Do Try.prog (zh_ 24 5 [(0, t105), (1, t108), (2, t109), (3, t112), (4, t113)]) (fun t114 w115 =>
        Rd Try.prog (WS.at w115) (zw_ 26 [(0, (.int .i64 3)), (1, (.int .i64 2)), (2, t114)]) fun t116 =>
        Do Try.prog (zab_ 26 t1 t116) (fun _ w117 =>
        Rd Try.prog (WS.at w117) (zwb_ 26 t1) fun t118 => k t118 w117) w115) w111) w107) w104) w4)
        (Do Try.prog (zh_ 27 2 [(0, (.int .i64 0)), (1, (.int .i64 0))]) (fun t119 w120 =>
        Rd Try.prog (WS.at w120) (zw_ 106 [(1, t119)]) fun t121 =>
        Do Try.prog (zh_ 27 1 [(0, (.int .i64 (-1)))]) (fun t122 w123 =>
        Rd Try.prog (WS.at w123) (zw_ 106 [(1, t122)]) fun t124 =>
        Do Try.prog (zh_ 27 2 [(0, (.int .i64 (-2))), (1, (.int .i64 1))]) (fun t125 w126 =>
        Rd Try.prog (WS.at w126) (zw_ 106 [(0, (.int .i64 1)), (1, t125)]) fun t127 =>
        Do Try.prog (zh_ 24 3 [(0, t121), (1, t124), (2, t127)]) (fun t128 w129 =>
        Rd Try.prog (WS.at w129) (zw_ 26 [(0, (.int .i64 2)), (1, (.int .i64 2)), (2, t128)]) fun t130 =>
        Do Try.prog (zab_ 26 t1 t130) (fun _ w131 =>
        Rd Try.prog (WS.at w131) (zwb_ 26 t1) fun t132 => k t132 w131) w129) w126) w123) w120) w4)))))))) w2) w
theorem body149 : Try.f149.body = some (zi_ Try.f149) := by kernel_rfl
theorem same149 (v0 : Value) (k : Value → World → Prop) (w : World) : wpF Try.prog pl149 (zi_ Try.f149) (zv_ Try.prog Try.f149.results.toList k) (zr_ [v0]) w = S149 v0 k w := by kernel_rfl
theorem enter149 {v0 : Value} {k : Value → World → Prop} {w : World} (h : S149 v0 k w) : CallK Try.prog 149 [v0] k w :=
  zk_ (pl := pl149) zdb_ Try.func149 body149 (by kernel_rfl) (of_decide_eq_true (by kernel_rfl)) (by kernel_rfl) (by kernel_rfl) (Eq.mpr (same149 v0 k w) h)

def pl117 : Plans := fun i => match i with
  | 2 => ⟨false, [], .step 0 .any (.step 1 .any (.step 2 .any (.step 3 .held (.step 4 .any (.step 5 .any (.step 6 .any (.step 7 .held (.step 8 .any (.step 9 .any (.nil))))))))))⟩
  | 3 => ⟨false, [10], .step 0 .any (.step 1 .any (.step 2 .any (.step 3 .held (.step 4 .any (.step 5 .any (.step 6 .any (.step 7 .held (.step 8 .any (.step 9 .held (.step 10 .last (.step 11 .any (.nil))))))))))))⟩
  | 6 => ⟨false, [], .step 0 .any (.step 1 .any (.step 2 .any (.step 3 .held (.step 4 .any (.step 5 .any (.step 6 .any (.step 7 .held (.step 8 .any (.step 9 .any (.nil))))))))))⟩
  | _ => ⟨false, [], .nil⟩
def S117 (v0 : Value) (k : Value → World → Prop) (w : World) : Prop :=
 Join (fun K1 =>
 Rd Try.prog WS.any (zeb_ v0) fun t4 =>
 Rd Try.prog WS.any (za_ 86 t4 1) fun t5 =>
 Rd Try.prog (WS.at w.drew) (zd_ 3 t5) fun t6 =>
 Rd Try.prog WS.any (zeb_ v0) fun t7 =>
 Rd Try.prog WS.any (za_ 86 t7 0) fun t8 =>
 Rd Try.prog (WS.at w.drew) (zd_ 22 t8) fun t9 =>
 Rd Try.prog WS.any (zc_ .len #[22] 3 [false] [t9]) fun t10 =>
 Rd Try.prog WS.any (sBin .lss 3 false t6 t10) fun t11 =>
 zm_ t11
  (Rd Try.prog WS.any (zeb_ v0) fun t12 =>
  Rd Try.prog WS.any (za_ 86 t12 0) fun t13 =>
  Rd Try.prog (WS.at w.drew.drew) (zd_ 22 t13) fun t14 =>
  Rd Try.prog WS.any (zeb_ v0) fun t15 =>
  Rd Try.prog WS.any (za_ 86 t15 1) fun t16 =>
  Rd Try.prog (WS.at w.drew.drew) (zd_ 3 t16) fun t17 =>
  Rd Try.prog WS.any (zf_ 22 t14 t17) fun t18 =>
  Rd Try.prog (WS.at w.drew.drew) (zd_ 5 t18) fun t19 =>
  Do Try.prog (zme_ 5 3 t19) (fun t20 w21 =>
  K1 (F.upd (F.upd (F.upd (F.upd (F.upd (F.upd (F.upd (F.upd (F.upd (F.upd (F.upd (F.upd (F.upd (F.upd (F.upd (F.upd (F.upd (F.upd (F.upd (F.upd (F.upd (F.upd (F.upd (F.upd (zr_ [v0]) 2 (.int .i64 0)) 3 (.int .i64 0)) 4 v0) 5 t4) 6 t5) 7 t6) 8 v0) 9 t7) 10 t8) 11 t9) 12 t10) 13 t11) 14 v0) 15 t12) 16 t13) 17 t14) 18 v0) 19 t15) 20 t16) 21 t17) 22 t18) 23 t19) 24 t20) 3 t20) w21) w.drew.drew)
  (K1 (F.upd (F.upd (F.upd (F.upd (F.upd (F.upd (F.upd (F.upd (F.upd (F.upd (F.upd (F.upd (zr_ [v0]) 2 (.int .i64 0)) 3 (.int .i64 0)) 4 v0) 5 t4) 6 t5) 7 t6) 8 v0) 9 t7) 10 t8) 11 t9) 12 t10) 13 t11) w.drew)) (fun f2 w3 =>
 Rd Try.prog (WS.at w3) (zeb_ (f2 0)) fun t22 =>
 Rd Try.prog (WS.at w3) (za_ 86 t22 1) fun t23 =>
 Rd Try.prog (WS.at w3) (zd_ 3 t23) fun t24 =>
 Rd Try.prog (WS.at w3) (sBin .add 3 true t24 (.int .i64 1)) fun t25 =>
 Rd Try.prog (WS.at w3) (zeb_ (f2 0)) fun t26 =>
 Rd Try.prog (WS.at w3) (za_ 86 t26 1) fun t27 =>
 Do Try.prog (zab_ 3 t27 t25) (fun _ w28 =>
 Rd Try.prog (WS.at w28) (zeb_ (f2 0)) fun t29 =>
 Rd Try.prog (WS.at w28) (za_ 86 t29 2) fun t30 =>
 Rd Try.prog (WS.at w28) (zd_ 84 t30) fun t31 =>
 Rd Try.prog (WS.at w28) (sBin .mul 84 true t31 (.int .u64 6364136223846793005)) fun t32 =>
 Do Try.prog (zme_ 3 84 (f2 3)) (fun t33 w34 =>
 Rd Try.prog (WS.at w34) (sBin .add 84 false t32 t33) fun t35 =>
 Rd Try.prog (WS.at w34) (sBin .add 84 true t35 (.int .u64 1442695040888963407)) fun t36 =>
 Rd Try.prog (WS.at w34) (zeb_ (f2 0)) fun t37 =>
 Rd Try.prog (WS.at w34) (za_ 86 t37 2) fun t38 =>
 Do Try.prog (zab_ 84 t38 t36) (fun _ w39 =>
 Rd Try.prog WS.any (zeb_ (f2 0)) fun t40 =>
 Rd Try.prog WS.any (za_ 86 t40 1) fun t41 =>
 Rd Try.prog (WS.at w39.drew) (zd_ 3 t41) fun t42 =>
 Rd Try.prog WS.any (zeb_ (f2 0)) fun t43 =>
 Rd Try.prog WS.any (za_ 86 t43 0) fun t44 =>
 Rd Try.prog (WS.at w39.drew) (zd_ 22 t44) fun t45 =>
 Rd Try.prog WS.any (zc_ .len #[22] 3 [false] [t45]) fun t46 =>
 Rd Try.prog WS.any (sBin .leq 3 false t42 t46) fun t47 =>
 zm_ t47
  (k (f2 3) w39.drew)
  (Rd Try.prog (WS.at w39.drew) (zeb_ (f2 0)) fun t48 =>
  Rd Try.prog (WS.at w39.drew) (za_ 86 t48 2) fun t49 =>
  Rd Try.prog (WS.at w39.drew) (zd_ 84 t49) fun t50 =>
  Rd Try.prog (WS.at w39.drew) (sBin .shr 84 true t50 (.int .u64 40)) fun t51 =>
  Rd Try.prog (WS.at w39.drew) (sBin .and 84 true t51 (.int .u64 255)) fun t52 =>
  Do Try.prog (zme_ 84 3 t52) (fun t53 w54 =>
  k t53 w54) w39.drew)) w34) w28) w3)
theorem body117 : Try.f117.body = some (zi_ Try.f117) := by kernel_rfl
theorem same117 (v0 : Value) (k : Value → World → Prop) (w : World) : wpF Try.prog pl117 (zi_ Try.f117) (zv_ Try.prog Try.f117.results.toList k) (zr_ [v0]) w = S117 v0 k w := by kernel_rfl
theorem enter117 {v0 : Value} {k : Value → World → Prop} {w : World} (h : S117 v0 k w) : CallK Try.prog 117 [v0] k w :=
  zk_ (pl := pl117) zdb_ Try.func117 body117 (by kernel_rfl) (of_decide_eq_true (by kernel_rfl)) (by kernel_rfl) (by kernel_rfl) (Eq.mpr (same117 v0 k w) h)

def pl60 : Plans := fun _ => ⟨false, [], .nil⟩
def S60 (v0 v1 : Value) (k : Value → World → Prop) (w : World) : Prop :=
 CallK Try.prog 57 [v0, v1] (fun t1 w2 =>
 Rd Try.prog (WS.at w2) (sBin .eql 3 true t1 (.int .i64 0)) fun t3 =>
 k t3 w2) w
theorem body60 : Try.f60.body = some (zi_ Try.f60) := by kernel_rfl
theorem same60 (v0 v1 : Value) (k : Value → World → Prop) (w : World) : wpF Try.prog pl60 (zi_ Try.f60) (zv_ Try.prog Try.f60.results.toList k) (zr_ [v0, v1]) w = S60 v0 v1 k w := by kernel_rfl
theorem enter60 {v0 v1 : Value} {k : Value → World → Prop} {w : World} (h : S60 v0 v1 k w) : CallK Try.prog 60 [v0, v1] k w :=
  zk_ (pl := pl60) zdb_ Try.func60 body60 (by kernel_rfl) (of_decide_eq_true (by kernel_rfl)) (by kernel_rfl) (by kernel_rfl) (Eq.mpr (same60 v0 v1 k w) h)

def pl57 : Plans := fun _ => ⟨false, [], .nil⟩
def S57 (v0 v1 : Value) (k : Value → World → Prop) (w : World) : Prop :=
 Rd Try.prog (WS.at w) (sBin .leq 3 true v1 (.int .i64 1)) fun t1 =>
 zm_ t1
  (k (.int .i64 0) w)
  (CallK Try.prog 117 [v0] (fun t2 w3 =>
  Join (fun K4 =>
  Rd Try.prog (WS.at w3) (sBin .gtr 3 true v1 (.int .i64 200)) fun t7 =>
  zm_ t7
   (Rd Try.prog (WS.at w3) (sBin .mul 3 true t2 (.int .i64 256)) fun t8 =>
   CallK Try.prog 117 [v0] (fun t9 w10 =>
   Rd Try.prog (WS.at w10) (sBin .add 3 false t8 t9) fun t11 =>
   K4 (F.upd (F.upd (F.upd (F.upd (F.upd (F.upd (F.upd (F.upd (F.upd (F.upd (F.upd (F.upd (F.upd (F.upd (zr_ [v0, v1]) 4 (.int .i64 0)) 6 v1) 7 t1) 8 v0) 9 t2) 5 t2) 10 v1) 11 t7) 12 t2) 13 t8) 14 v0) 15 t9) 16 t11) 5 t11) w10) w3)
   (K4 (F.upd (F.upd (F.upd (F.upd (F.upd (F.upd (F.upd (F.upd (zr_ [v0, v1]) 4 (.int .i64 0)) 6 v1) 7 t1) 8 v0) 9 t2) 5 t2) 10 v1) 11 t7) w3)) (fun f5 w6 =>
  Rd Try.prog (WS.at w6) (sBin .rem 3 false (f5 5) (f5 1)) fun t12 =>
  k t12 w6)) w)
theorem body57 : Try.f57.body = some (zi_ Try.f57) := by kernel_rfl
theorem same57 (v0 v1 : Value) (k : Value → World → Prop) (w : World) : wpF Try.prog pl57 (zi_ Try.f57) (zv_ Try.prog Try.f57.results.toList k) (zr_ [v0, v1]) w = S57 v0 v1 k w := by kernel_rfl
theorem enter57 {v0 v1 : Value} {k : Value → World → Prop} {w : World} (h : S57 v0 v1 k w) : CallK Try.prog 57 [v0, v1] k w :=
  zk_ (pl := pl57) zdb_ Try.func57 body57 (by kernel_rfl) (of_decide_eq_true (by kernel_rfl)) (by kernel_rfl) (by kernel_rfl) (Eq.mpr (same57 v0 v1 k w) h)

def pl150 : Plans := fun _ => ⟨false, [], .nil⟩
def S150 (v0 v1 : Value) (k : Value → World → Prop) (w : World) : Prop :=
 Do Try.prog (sBox 106 v1) (fun t1 w2 =>
 Rd Try.prog (WS.at w2) (zc_ .len #[24] 3 [false] [v0]) fun t3 =>
 zrb_ [10, 11, 12, 6, 13, 14, 15, 16, 4, 17, 9] (fun Q4 f5 w6 =>
  Rd Try.prog (WS.at w6) (sBin .lss 3 false (f5 9) (f5 8)) fun t7 =>
  zm_ t7
   (Rd Try.prog (WS.at w6) (zf_ 24 (f5 7) (f5 9)) fun t8 =>
   Rd Try.prog (WS.at w6) (zd_ 106 t8) fun t9 =>
   Do Try.prog (zkb_ 106) (fun t10 w11 =>
   Do Try.prog (zab_ 106 t10 t9) (fun _ w12 =>
   Rd Try.prog (WS.at w12) (zd_ 106 (f5 3)) fun t13 =>
   Rd Try.prog (WS.at w12) (zd_ 106 t10) fun t14 =>
   CallK Try.prog 109 [t13, t14] (fun t15 w16 =>
   zm_ t15
    (Q4 .ret (F.upd (F.upd (F.upd (F.upd (F.upd (F.upd (F.upd (F.upd (F.upd f5 10 t7) 11 t8) 12 t9) 6 t10) 13 t13) 14 t14) 15 t15) 16 (f5 0)) 4 (f5 0)) w16)
    (Rd Try.prog (WS.at w16) (sBin .add 3 true (f5 9) (.int .i64 1)) fun t17 =>
    Q4 .normal (F.upd (F.upd (F.upd (F.upd (F.upd (F.upd (F.upd (F.upd (F.upd f5 10 t7) 11 t8) 12 t9) 6 t10) 13 t13) 14 t14) 15 t15) 17 t17) 9 t17) w16)) w12) w11) w6)
   (Q4 (.exit 0) (F.upd f5 10 t7) w6))
  (zgb_ 0 (seqQ (fun f18 w19 =>
 Rd Try.prog (WS.at w19) (zd_ 106 (f18 3)) fun t20 =>
 Do Try.prog (zh_ 24 1 [(0, t20)]) (fun t21 w22 =>
 Do Try.prog (zc_ .append #[24, 24] 24 [false, false] [(f18 0), t21]) (fun t23 w24 =>
 k t23 w24) w22) w19) (zv_ Try.prog [.tmp 4] k)))
  (F.upd (F.upd (F.upd (F.upd (F.upd (zr_ [v0, v1]) 3 t1) 4 (.slice none 0 0)) 7 v0) 8 t3) 9 (.int .i64 0)) w2) w
theorem body150 : Try.f150.body = some (zi_ Try.f150) := by kernel_rfl
theorem same150 (v0 v1 : Value) (k : Value → World → Prop) (w : World) : wpF Try.prog pl150 (zi_ Try.f150) (zv_ Try.prog Try.f150.results.toList k) (zr_ [v0, v1]) w = S150 v0 v1 k w := by kernel_rfl
theorem enter150 {v0 v1 : Value} {k : Value → World → Prop} {w : World} (h : S150 v0 v1 k w) : CallK Try.prog 150 [v0, v1] k w :=
  zk_ (pl := pl150) zdb_ Try.func150 body150 (by kernel_rfl) (of_decide_eq_true (by kernel_rfl)) (by kernel_rfl) (by kernel_rfl) (Eq.mpr (same150 v0 v1 k w) h)

open Go Go.Sh Go.RowKit
abbrev TC : Nat := 86
abbrev cur (bc : Nat) (cv : Value) (N : Nat) : Thing := curi TC bc cv N
section
variable {w0 w : World} {L : List Thing} {bc N : Nat} {C : Option Addr} {cap : Nat} {bs : List Int} {k : Value → World → Prop}
theorem zef_ {i : Nat} {a b : Thing} : (L.set i a).set i b = L.set i b := List.set_set ..
theorem zff_ {i : Nat} {a it : Thing} (hi : L[i]? = some it) : (L.set i a)[i]? = some a := by
  rw [List.getElem?_set, if_pos rfl, if_pos (get_lt hi)]
set_option maxHeartbeats 1600000 in
theorem next_c (H : Apt w0 w L) (i : Nat) (hi : L[i]? = some (cur bc (.slice C bs.length cap) N)) (hC : Byts w0 C bs) (hN : N ≤ 1000000000) (hk : ∀ w' (b : Int), 0 ≤ b → b ≤ 255 → Apt w0 w' (L.set i (cur bc (.slice C bs.length cap) (N + 1))) → k (.int .i64 b) w') :
    CallK Try.prog 117 [ptrv bc] k w := by
  refine enter117 ?_
  unfold S117
  obtain ⟨a, s, h0, h1, H⟩ := H.openCur i hi
  have hi1 := zff_ (a := bx bc [.slice C bs.length cap, .int .i64 a, .int .u64 s] TC) hi
  have hle := hC.le
  refine zed_ (fun f w' => f 0 = ptrv bc ∧ (∃ b : Int, 0 ≤ b ∧ b ≤ 255 ∧ f 3 = .int .i64 b) ∧ Apt w0 w' (L.set i (bx bc [.slice C bs.length cap, .int .i64 a, .int .u64 s] TC))) (fun K hK => ?_) ?_
  · have H := H.drew
    simp only [zq18, zq19, zq20, zq21, zq22, zq23, zq24, zq25, zq26, zq27, zq28, zq4, zq3, zq1, zq2, zq0, zq29, zq30, zq14, zq15, zq16, zq17, zq13, zq10, zq12, zq11, zq7, zq5, zq6, zq9, zq8, zq31, zq32, ite_T, ite_F, zq33, zq34, zq35, Nat.reduceEqDiff, len22, len24, fa26_0, fa26_1, fa26_2, len27, fa86_0, fa86_1, fa86_2, fa97_0, fa97_1, fa103_0, fa103_1, fa103_2, fa103_3, fa103_4, fa103_5, fa103_6, fa106_0, fa106_1]
    rw [ldB3 (H.box i hi1) rfl]
    rw [ldB22 (H.box i hi1) rfl]
    simp only [zq18, zq19, zq20, zq21, zq22, zq23, zq24, zq25, zq26, zq27, zq28, zq4, zq3, zq1, zq2, zq0, zq29, zq30, zq14, zq15, zq16, zq17, zq13, zq10, zq12, zq11, zq7, zq5, zq6, zq9, zq8, zq31, zq32, ite_T, ite_F, zq33, zq34, zq35, Nat.reduceEqDiff, len22, len24, fa26_0, fa26_1, fa26_2, len27, fa86_0, fa86_1, fa86_2, fa97_0, fa97_1, fa103_0, fa103_1, fa103_2, fa103_3, fa103_4, fa103_5, fa103_6, fa106_0, fa106_1]
    by_cases hlt : a < bs.length
    · simp only [hlt, decide_true, zq18, zq19, zq20, zq21, zq22, zq23, zq24, zq25, zq26, zq27, zq28, zq4, zq3, zq1, zq2, zq0, zq29, zq30, zq14, zq15, zq16, zq17, zq13, zq10, zq12, zq11, zq7, zq5, zq6, zq9, zq8, zq31, zq32, ite_T, ite_F, zq33, zq34, zq35, Nat.reduceEqDiff, len22, len24, fa26_0, fa26_1, fa26_2, len27, fa86_0, fa86_1, fa86_2, fa97_0, fa97_1, fa103_0, fa103_1, fa103_2, fa103_3, fa103_4, fa103_5, fa103_6, fa106_0, fa106_1]
      have H := H.drew
      rw [ldB22 (H.box i hi1) rfl]
      rw [ldB3 (H.box i hi1) rfl]
      obtain ⟨m, rfl⟩ : ∃ m : Nat, a = m := ⟨a.toNat, by omega⟩
      have hm : m < bs.length := by omega
      refine rdi (ixn22 hC.ptr hm) (rdi (ld5 ((hC.gr H.gr).cell m hm)) ?_)
      refine zah_ Try.underlying5 Try.underlying3 ?_
      have hs := hC.small m hm
      rw [zp_ (by omega) (by omega)]
      exact hK _ _ ⟨rfl, ⟨_, hs.1, hs.2, rfl⟩, H⟩
    · simp only [hlt, decide_false, zq18, zq19, zq20, zq21, zq22, zq23, zq24, zq25, zq26, zq27, zq28, zq4, zq3, zq1, zq2, zq0, zq29, zq30, zq14, zq15, zq16, zq17, zq13, zq10, zq12, zq11, zq7, zq5, zq6, zq9, zq8, zq31, zq32, ite_T, ite_F, zq33, zq34, zq35, Nat.reduceEqDiff, len22, len24, fa26_0, fa26_1, fa26_2, len27, fa86_0, fa86_1, fa86_2, fa97_0, fa97_1, fa103_0, fa103_1, fa103_2, fa103_3, fa103_4, fa103_5, fa103_6, fa106_0, fa106_1]
      exact hK _ _ ⟨rfl, ⟨0, by omega, by omega, rfl⟩, H⟩
  · clear H
    rintro f w1 ⟨f0, ⟨b, hb0, hb1, f3⟩, H⟩
    simp only [f0, f3, zq18, zq19, zq20, zq21, zq22, zq23, zq24, zq25, zq26, zq27, zq28, zq4, zq3, zq1, zq2, zq0, zq29, zq30, zq14, zq15, zq16, zq17, zq13, zq10, zq12, zq11, zq7, zq5, zq6, zq9, zq8, zq31, zq32, ite_T, ite_F, zq33, zq34, zq35, Nat.reduceEqDiff, len22, len24, fa26_0, fa26_1, fa26_2, len27, fa86_0, fa86_1, fa86_2, fa97_0, fa97_1, fa103_0, fa103_1, fa103_2, fa103_3, fa103_4, fa103_5, fa103_6, fa106_0, fa106_1]
    rw [ldB3 (H.box i hi1) rfl]
    simp only [zq18, zq19, zq20, zq21, zq22, zq23, zq24, zq25, zq26, zq27, zq28, zq4, zq3, zq1, zq2, zq0, zq29, zq30, zq14, zq15, zq16, zq17, zq13, zq10, zq12, zq11, zq7, zq5, zq6, zq9, zq8, zq31, zq32, ite_T, ite_F, zq33, zq34, zq35, Nat.reduceEqDiff, len22, len24, fa26_0, fa26_1, fa26_2, len27, fa86_0, fa86_1, fa86_2, fa97_0, fa97_1, fa103_0, fa103_1, fa103_2, fa103_3, fa103_4, fa103_5, fa103_6, fa106_0, fa106_1]
    rw [zp_ (by omega) (by omega)]
    refine zpb_ H i hi1 sz3 rfl rfl rfl fun w2 H => ?_
    simp only [List.take_succ_cons, List.take_zero, List.drop_succ_cons, List.drop_zero, List.nil_append, List.cons_append, Value.cells, zef_] at H
    have hi2 := zff_ (a := bx bc [.slice C bs.length cap, .int .i64 (a + 1), .int .u64 s] TC) hi
    rw [ldB84 (H.box i hi2) rfl]
    simp only [zq18, zq19, zq20, zq21, zq22, zq23, zq24, zq25, zq26, zq27, zq28, zq4, zq3, zq1, zq2, zq0, zq29, zq30, zq14, zq15, zq16, zq17, zq13, zq10, zq12, zq11, zq7, zq5, zq6, zq9, zq8, zq31, zq32, ite_T, ite_F, zq33, zq34, zq35, Nat.reduceEqDiff, len22, len24, fa26_0, fa26_1, fa26_2, len27, fa86_0, fa86_1, fa86_2, fa97_0, fa97_1, fa103_0, fa103_1, fa103_2, fa103_3, fa103_4, fa103_5, fa103_6, fa106_0, fa106_1]
    refine zah_ Try.underlying3 Try.underlying84 ?_
    simp only [zq18, zq19, zq20, zq21, zq22, zq23, zq24, zq25, zq26, zq27, zq28, zq4, zq3, zq1, zq2, zq0, zq29, zq30, zq14, zq15, zq16, zq17, zq13, zq10, zq12, zq11, zq7, zq5, zq6, zq9, zq8, zq31, zq32, ite_T, ite_F, zq33, zq34, zq35, Nat.reduceEqDiff, len22, len24, fa26_0, fa26_1, fa26_2, len27, fa86_0, fa86_1, fa86_2, fa97_0, fa97_1, fa103_0, fa103_1, fa103_2, fa103_3, fa103_4, fa103_5, fa103_6, fa106_0, fa106_1]
    refine zpb_ H i hi2 sz84 rfl rfl rfl fun w3 H => ?_
    simp only [List.take_succ_cons, List.take_zero, List.drop_succ_cons, List.drop_zero, List.nil_append, List.cons_append, Value.cells, zef_] at H
    generalize IntKind.u64.wrap _ = z at H
    have hi3 := zff_ (a := bx bc [.slice C bs.length cap, .int .i64 (a + 1), .int .u64 z] TC) hi
    have H := H.drew
    rw [ldB3 (H.box i hi3) rfl]
    rw [ldB22 (H.box i hi3) rfl]
    simp only [zq18, zq19, zq20, zq21, zq22, zq23, zq24, zq25, zq26, zq27, zq28, zq4, zq3, zq1, zq2, zq0, zq29, zq30, zq14, zq15, zq16, zq17, zq13, zq10, zq12, zq11, zq7, zq5, zq6, zq9, zq8, zq31, zq32, ite_T, ite_F, zq33, zq34, zq35, Nat.reduceEqDiff, len22, len24, fa26_0, fa26_1, fa26_2, len27, fa86_0, fa86_1, fa86_2, fa97_0, fa97_1, fa103_0, fa103_1, fa103_2, fa103_3, fa103_4, fa103_5, fa103_6, fa106_0, fa106_1]
    have fin : ∀ w' (b : Int), 0 ≤ b → b ≤ 255 → Apt w0 w' (L.set i (bx bc [.slice C bs.length cap, .int .i64 (a + 1), .int .u64 z] TC)) → k (.int .i64 b) w' := fun w' b hb hb' H => by
      have H := H.shutCur (N := N + 1) i hi3 (by omega) (by omega)
      rw [zef_] at H
      exact hk w' b hb hb' H
    by_cases hle2 : a + 1 ≤ bs.length
    · simp only [hle2, decide_true, zq18, zq19, zq20, zq21, zq22, zq23, zq24, zq25, zq26, zq27, zq28, zq4, zq3, zq1, zq2, zq0, zq29, zq30, zq14, zq15, zq16, zq17, zq13, zq10, zq12, zq11, zq7, zq5, zq6, zq9, zq8, zq31, zq32, ite_T, ite_F, zq33, zq34, zq35, Nat.reduceEqDiff, len22, len24, fa26_0, fa26_1, fa26_2, len27, fa86_0, fa86_1, fa86_2, fa97_0, fa97_1, fa103_0, fa103_1, fa103_2, fa103_3, fa103_4, fa103_5, fa103_6, fa106_0, fa106_1]
      exact fin _ b hb0 hb1 H
    · simp only [hle2, decide_false, zq18, zq19, zq20, zq21, zq22, zq23, zq24, zq25, zq26, zq27, zq28, zq4, zq3, zq1, zq2, zq0, zq29, zq30, zq14, zq15, zq16, zq17, zq13, zq10, zq12, zq11, zq7, zq5, zq6, zq9, zq8, zq31, zq32, ite_T, ite_F, zq33, zq34, zq35, Nat.reduceEqDiff, len22, len24, fa26_0, fa26_1, fa26_2, len27, fa86_0, fa86_1, fa86_2, fa97_0, fa97_1, fa103_0, fa103_1, fa103_2, fa103_3, fa103_4, fa103_5, fa103_6, fa106_0, fa106_1]
      rw [ldB84 (H.box i hi3) rfl]
      refine rdi (bin_shr (by omega)) (rdi bin_and ?_)
      have h255 := and255 (z.fdiv (2 ^ (min (40 : Int).toNat IntKind.u64.bits)))
      generalize IntKind.u64.wrap _ = y at *
      refine zah_ Try.underlying84 Try.underlying3 ?_
      rw [zp_ (by omega) (by omega)]
      exact fin _ y h255.1 h255.2 H
theorem zic_ (H : Apt w0 w L) (i : Nat) (hi : L[i]? = some (cur bc (.slice C bs.length cap) N)) (hC : Byts w0 C bs) (hN : N ≤ 100000000) {n : Int} (hn : n ≤ 60000) (hk : ∀ w' (b : Nat), (n ≤ 1 → b = 0) → (1 < n → (b : Int) < n) → Apt w0 w' (L.set i (cur bc (.slice C bs.length cap) (N + 2))) → k (.int .i64 (b : Int)) w') :
    CallK Try.prog 57 [ptrv bc, .int .i64 n] k w := by
  refine enter57 ?_
  unfold S57
  have more : ∀ {w : World} {m : Nat}, m ≤ N + 2 → Apt w0 w (L.set i (cur bc (.slice C bs.length cap) m)) → Apt w0 w (L.set i (cur bc (.slice C bs.length cap) (N + 2))) := fun {w m} hm H => by
    have hj := zff_ (a := cur bc (.slice C bs.length cap) m) hi
    obtain ⟨a, s, h0, h1, H⟩ := H.openCur i hj
    rw [zef_] at H
    have hj2 := zff_ (a := bx bc [.slice C bs.length cap, .int .i64 a, .int .u64 s] TC) hi
    have H := H.shutCur (N := N + 2) i hj2 h0 (by omega)
    rw [zef_] at H
    exact H
  simp only [zq18, zq19, zq20, zq21, zq22, zq23, zq24, zq25, zq26, zq27, zq28, zq4, zq3, zq1, zq2, zq0, zq29, zq30, zq14, zq15, zq16, zq17, zq13, zq10, zq12, zq11, zq7, zq5, zq6, zq9, zq8, zq31, zq32, ite_T, ite_F, zq33, zq34, zq35, Nat.reduceEqDiff, len22, len24, fa26_0, fa26_1, fa26_2, len27, fa86_0, fa86_1, fa86_2, fa97_0, fa97_1, fa103_0, fa103_1, fa103_2, fa103_3, fa103_4, fa103_5, fa103_6, fa106_0, fa106_1]
  by_cases h1 : n ≤ 1
  · simp only [h1, decide_true, zq18, zq19, zq20, zq21, zq22, zq23, zq24, zq25, zq26, zq27, zq28, zq4, zq3, zq1, zq2, zq0, zq29, zq30, zq14, zq15, zq16, zq17, zq13, zq10, zq12, zq11, zq7, zq5, zq6, zq9, zq8, zq31, zq32, ite_T, ite_F, zq33, zq34, zq35, Nat.reduceEqDiff, len22, len24, fa26_0, fa26_1, fa26_2, len27, fa86_0, fa86_1, fa86_2, fa97_0, fa97_1, fa103_0, fa103_1, fa103_2, fa103_3, fa103_4, fa103_5, fa103_6, fa106_0, fa106_1]
    have e : L = L.set i (cur bc (.slice C bs.length cap) N) := by
      obtain ⟨h, e⟩ := List.getElem?_eq_some_iff.1 hi
      rw [← e, List.set_getElem_self]
    rw [e] at H
    exact hk w 0 (fun _ => rfl) (fun h => by omega) (more (by omega) H)
  simp only [h1, decide_false, zq18, zq19, zq20, zq21, zq22, zq23, zq24, zq25, zq26, zq27, zq28, zq4, zq3, zq1, zq2, zq0, zq29, zq30, zq14, zq15, zq16, zq17, zq13, zq10, zq12, zq11, zq7, zq5, zq6, zq9, zq8, zq31, zq32, ite_T, ite_F, zq33, zq34, zq35, Nat.reduceEqDiff, len22, len24, fa26_0, fa26_1, fa26_2, len27, fa86_0, fa86_1, fa86_2, fa97_0, fa97_1, fa103_0, fa103_1, fa103_2, fa103_3, fa103_4, fa103_5, fa103_6, fa106_0, fa106_1]
  refine next_c H i hi hC (by omega) fun w1 b hb0 hb1 H => ?_
  have hj := zff_ (a := cur bc (.slice C bs.length cap) (N + 1)) hi
  have fin : ∀ (x : Int) (w' : World), 0 ≤ x → Apt w0 w' (L.set i (cur bc (.slice C bs.length cap) (N + 2))) → k (.int .i64 (x.tmod n)) w' := fun x w' hx H => by
    have e1 : x.tmod n = x % n := Int.tmod_eq_emod_of_nonneg hx
    have e2 := Int.emod_nonneg x (show n ≠ 0 by omega)
    have e3 := Int.emod_lt_of_pos x (show 0 < n by omega)
    have := hk w' (x % n).toNat (fun h => absurd h h1) (fun _ => by omega) H
    rw [Int.toNat_of_nonneg e2] at this
    rw [e1]
    exact this
  refine zed_ (fun f w' => f 1 = .int .i64 n ∧ ∃ x : Int, 0 ≤ x ∧ f 5 = .int .i64 x ∧ Apt w0 w' (L.set i (cur bc (.slice C bs.length cap) (N + 2)))) (fun K hK => ?_) ?_
  · simp only [zq18, zq19, zq20, zq21, zq22, zq23, zq24, zq25, zq26, zq27, zq28, zq4, zq3, zq1, zq2, zq0, zq29, zq30, zq14, zq15, zq16, zq17, zq13, zq10, zq12, zq11, zq7, zq5, zq6, zq9, zq8, zq31, zq32, ite_T, ite_F, zq33, zq34, zq35, Nat.reduceEqDiff, len22, len24, fa26_0, fa26_1, fa26_2, len27, fa86_0, fa86_1, fa86_2, fa97_0, fa97_1, fa103_0, fa103_1, fa103_2, fa103_3, fa103_4, fa103_5, fa103_6, fa106_0, fa106_1]
    by_cases h2 : 200 < n
    · simp only [h2, decide_true, zq18, zq19, zq20, zq21, zq22, zq23, zq24, zq25, zq26, zq27, zq28, zq4, zq3, zq1, zq2, zq0, zq29, zq30, zq14, zq15, zq16, zq17, zq13, zq10, zq12, zq11, zq7, zq5, zq6, zq9, zq8, zq31, zq32, ite_T, ite_F, zq33, zq34, zq35, Nat.reduceEqDiff, len22, len24, fa26_0, fa26_1, fa26_2, len27, fa86_0, fa86_1, fa86_2, fa97_0, fa97_1, fa103_0, fa103_1, fa103_2, fa103_3, fa103_4, fa103_5, fa103_6, fa106_0, fa106_1]
      rw [zp_ (by omega) (by omega)]
      refine next_c H i hj hC (by omega) fun w2 b2 hc0 hc1 H => ?_
      rw [zef_] at H
      simp only [zq18, zq19, zq20, zq21, zq22, zq23, zq24, zq25, zq26, zq27, zq28, zq4, zq3, zq1, zq2, zq0, zq29, zq30, zq14, zq15, zq16, zq17, zq13, zq10, zq12, zq11, zq7, zq5, zq6, zq9, zq8, zq31, zq32, ite_T, ite_F, zq33, zq34, zq35, Nat.reduceEqDiff, len22, len24, fa26_0, fa26_1, fa26_2, len27, fa86_0, fa86_1, fa86_2, fa97_0, fa97_1, fa103_0, fa103_1, fa103_2, fa103_3, fa103_4, fa103_5, fa103_6, fa106_0, fa106_1]
      rw [zp_ (by omega) (by omega)]
      exact hK _ _ ⟨rfl, _, by omega, rfl, H⟩
    · simp only [h2, decide_false, zq18, zq19, zq20, zq21, zq22, zq23, zq24, zq25, zq26, zq27, zq28, zq4, zq3, zq1, zq2, zq0, zq29, zq30, zq14, zq15, zq16, zq17, zq13, zq10, zq12, zq11, zq7, zq5, zq6, zq9, zq8, zq31, zq32, ite_T, ite_F, zq33, zq34, zq35, Nat.reduceEqDiff, len22, len24, fa26_0, fa26_1, fa26_2, len27, fa86_0, fa86_1, fa86_2, fa97_0, fa97_1, fa103_0, fa103_1, fa103_2, fa103_3, fa103_4, fa103_5, fa103_6, fa106_0, fa106_1]
      exact hK _ _ ⟨rfl, b, hb0, rfl, more (by omega) H⟩
  · rintro f w2 ⟨f1, x, hx, f5, H⟩
    simp only [f1, f5]
    refine rdi (bin_rem (by omega)) ?_
    exact fin x w2 hx H
theorem one_c (H : Apt w0 w L) (i : Nat) (hi : L[i]? = some (cur bc (.slice C bs.length cap) N)) (hC : Byts w0 C bs) (hN : N ≤ 100000000) {n : Int} (hn : n ≤ 60000) (hk : ∀ w' (b : Bool), Apt w0 w' (L.set i (cur bc (.slice C bs.length cap) (N + 2))) → k (.bool b) w') :
    CallK Try.prog 60 [ptrv bc, .int .i64 n] k w := by
  refine enter60 ?_
  unfold S60
  refine zic_ H i hi hC hN hn fun w1 b _ _ H => ?_
  simp only [zq18, zq19, zq20, zq21, zq22, zq23, zq24, zq25, zq26, zq27, zq28, zq4, zq3, zq1, zq2, zq0, zq29, zq30, zq14, zq15, zq16, zq17, zq13, zq10, zq12, zq11, zq7, zq5, zq6, zq9, zq8, zq31, zq32, ite_T, ite_F, zq33, zq34, zq35, Nat.reduceEqDiff, len22, len24, fa26_0, fa26_1, fa26_2, len27, fa86_0, fa86_1, fa86_2, fa97_0, fa97_1, fa103_0, fa103_1, fa103_2, fa103_3, fa103_4, fa103_5, fa103_6, fa106_0, fa106_1]
  exact hk _ _ H
theorem among_c (H : Apt w0 w L) (i : Nat) (hi : L[i]? = some (cur bc (.slice C bs.length cap) N)) (hC : Byts w0 C bs) (hN : N ≤ 100000000) {Z : Option Addr} {n cz : Nat} {xs : List Int} (hZ : ∀ w', Apt w0 w' (L.set i (cur bc (.slice C bs.length cap) (N + 2))) → Ints w' Z xs) (hn : n = xs.length) (h0 : 0 < xs.length) (hl : xs.length ≤ 60000) (hk : ∀ w' (j : Nat), j < xs.length → Apt w0 w' (L.set i (cur bc (.slice C bs.length cap) (N + 2))) → k (.int .i64 (xs.getD j 0)) w') :
    CallK Try.prog 69 [ptrv bc, .slice Z n cz] k w := by
  subst hn
  refine enter69 ?_
  unfold S69
  simp only [zq18, zq19, zq20, zq21, zq22, zq23, zq24, zq25, zq26, zq27, zq28, zq4, zq3, zq1, zq2, zq0, zq29, zq30, zq14, zq15, zq16, zq17, zq13, zq10, zq12, zq11, zq7, zq5, zq6, zq9, zq8, zq31, zq32, ite_T, ite_F, zq33, zq34, zq35, Nat.reduceEqDiff, len22, len24, fa26_0, fa26_1, fa26_2, len27, fa86_0, fa86_1, fa86_2, fa97_0, fa97_1, fa103_0, fa103_1, fa103_2, fa103_3, fa103_4, fa103_5, fa103_6, fa106_0, fa106_1]
  refine zic_ H i hi hC hN (by omega) fun w1 b h1 h2 H => ?_
  have hb : b < xs.length := by
    by_cases h : (xs.length : Int) ≤ 1
    · have := h1 h; omega
    · have := h2 (by omega); omega
  have hz := hZ w1 H
  refine rdi (zac_ hz.ptr hb) (rdi (ld3 (hz.cell b hb)) ?_)
  exact hk w1 b hb H
end
end Go.Proofs.Yteabbgaffgpegaa

namespace Go.Sh
open Go
inductive RuleCells (F : Nat → Prop) (w : World) : List RuleL → List Value → Prop
  | nil : RuleCells F w [] []
  | cons {r : RuleL} {rs : List RuleL} {Y : Option Addr} {c : Nat} {cells : List Value} : r.2.length ≤ c → IntsF F w Y r.2 → RuleCells F w rs cells → RuleCells F w (r :: rs) (.int .i64 r.1 :: .slice Y r.2.length c :: cells)
section
variable {F E : Nat → Prop} {w w' : World} {rs qs : List RuleL} {cells news : List Value}
theorem RuleCells.len (h : RuleCells F w rs cells) : cells.length = rs.length * 2 := by
  induction h with
  | nil => rfl
  | cons _ _ _ ih => simp only [List.length_cons, ih]; omega
theorem RuleCells.mono (h : RuleCells F w rs cells) (he : ∀ b, F b → E b) : RuleCells E w rs cells := by
  induction h with
  | nil => exact .nil
  | cons h1 h2 _ ih => exact .cons h1 (h2.mono he) ih
theorem RuleCells.gr (h : RuleCells F w rs cells) (g : Gr w w') : RuleCells F w' rs cells := by
  induction h with
  | nil => exact .nil
  | cons h1 h2 _ ih => exact .cons h1 (h2.gr g) ih
theorem IntsF.same' {X : Option Addr} {xs : List Int} (h : IntsF F w X xs) (hs : ∀ q, F q → w'.heap[q]? = w.heap[q]?) : IntsF F w' X xs :=
  ⟨⟨h.is.le, h.is.ptr, fun j hj => by
    have h1 := h.is.cell j hj
    have h2 : w'.heap[((ad X).add j).block]? = w.heap[((ad X).add j).block]? := hs _ (by rw [zhc_]; exact h.foot (by omega))
    unfold World.cell? at h1 ⊢
    rw [h2]
    exact h1⟩, h.foot⟩
theorem RuleCells.same (h : RuleCells F w rs cells) (hs : ∀ q, F q → w'.heap[q]? = w.heap[q]?) : RuleCells F w' rs cells := by
  induction h with
  | nil => exact .nil
  | cons h1 h2 _ ih => exact .cons h1 (h2.same' hs) ih
theorem RuleCells.append (h : RuleCells F w rs cells) (h' : RuleCells F w qs news) : RuleCells F w (rs ++ qs) (cells ++ news) := by
  induction h with
  | nil => exact h'
  | cons h1 h2 _ ih => exact .cons h1 h2 ih
theorem RuleCells.one (h : RuleCells F w rs cells) : ∀ v ∈ cells, v.oneCell' = true := by
  induction h with
  | nil => intro v hv; simp at hv
  | cons h1 h2 _ ih =>
    intro v hv
    rcases List.mem_cons.1 hv with rfl | hv
    · rfl
    · rcases List.mem_cons.1 hv with rfl | hv
      · rfl
      · exact ih v hv
theorem RuleCells.lt (h : RuleCells F w rs cells) : RuleCells (fun b => F b ∧ b < w.heap.size) w rs cells := by
  induction h with
  | nil => exact .nil
  | @cons r rs Y c cells h1 h2 _ ih =>
    refine .cons h1 ⟨h2.is, fun hp => ⟨h2.foot hp, ?_⟩⟩ ih
    have h3 := h2.is.cell 0 hp
    have : ((ad Y).add 0).block < w.heap.size := by
      unfold World.cell? at h3
      cases hb : w.heap[((ad Y).add 0).block]? with
      | none => rw [hb] at h3; cases h3
      | some _ => exact (Array.getElem?_eq_some_iff.1 hb).1
    rwa [zhc_] at this
theorem RuleCells.cell (h : RuleCells F w rs cells) : ∀ j, j < rs.length → ∃ Y c, cells[j * 2]? = some (.int .i64 (rul rs j).1) ∧ cells[j * 2 + 1]? = some (.slice Y (rul rs j).2.length c) ∧ (rul rs j).2.length ≤ c ∧ IntsF F w Y (rul rs j).2 := by
  induction h with
  | nil => intro j hj; simp at hj
  | cons h1 h2 _ ih =>
    intro j hj
    cases j with
    | zero => exact ⟨_, _, rfl, rfl, h1, h2⟩
    | succ j =>
      obtain ⟨Y, c, a1, a2, a3, a4⟩ := ih j (by simpa using hj)
      have e : ∀ (r : RuleL) (rs : List RuleL), rul (r :: rs) (j + 1) = rul rs j := fun r rs => by simp [rul]
      rw [e]
      refine ⟨Y, c, ?_, ?_, a3, a4⟩
      · rw [show (j + 1) * 2 = j * 2 + 1 + 1 from by omega]
        simpa using a1
      · rw [show (j + 1) * 2 + 1 = j * 2 + 1 + 1 + 1 from by omega]
        simpa using a2
def OwnG (e : Nat) (F : Nat → Prop) (w : World) (B : Nat) (X : Option Addr) (c : Nat) (rs : List RuleL) : Prop := ∃ cells, Row w B e 2 X rs.length c cells ∧ RuleCells (fun q => F q ∧ blk X ≠ some q) w rs cells
def gow (e : Nat) (ft : Nat → Prop) (X : Option Addr) (c : Nat) (rs : List RuleL) : Thing := ⟨fun w => OwnG e ft w 0 X c rs, fun q => blk X = some q ∨ ft q⟩
theorem zag_ {e : Nat} {ft : Nat → Prop} {B c : Nat} {X : Option Addr} (h : OwnG e ft w B X c rs) : ∀ w', (∀ q, (gow e ft X c rs).ft q → w'.heap[q]? = w.heap[q]?) → (gow e ft X c rs).P w' := fun w' hs => by
  obtain ⟨cells, h1, h2⟩ := h
  exact ⟨cells, (Row.mono h1 (Nat.zero_le B)).same fun q hq => hs q (.inl hq), h2.same fun q hq => hs q (.inr hq.1)⟩
theorem OwnG.read {e : Nat} {B c : Nat} {X : Option Addr} (h : OwnG e F w B X c rs) : RulesF (fun _ => True) w X rs := by
  obtain ⟨cells, h1, h2⟩ := h
  have hcap := Row.cap h1
  refine ⟨by omega, fun hp => h1.ptr hp, fun _ => trivial, fun j hj => ?_⟩
  obtain ⟨Y, d, a1, a2, a3, a4⟩ := h2.cell j hj
  exact ⟨Y, d, h1.src.cell _ _ a1, h1.src.cell _ _ a2, a3, a4.mono fun _ _ => trivial⟩
theorem Apt.gow {w0 : World} {L : List Thing} (H : Apt w0 w L) (i : Nat) {e : Nat} {ft : Nat → Prop} {c : Nat} {X : Option Addr} (hi : L[i]? = some (Sh.gow e ft X c rs)) : OwnG e ft w 0 X c rs := H.get i hi
theorem Apt.addGow {w0 : World} {L : List Thing} {e c : Nat} {X : Option Addr} (H : Apt w0 w L) (g : Gr w w') (hr : Row w' w.heap.size e 2 X rs.length c cells) (hc : RuleCells (fun q => w.heap.size ≤ q ∧ blk X ≠ some q) w' rs cells) : Apt w0 w' (L ++ [Sh.gow e (fun q => w.heap.size ≤ q ∧ q < w'.heap.size) X c rs]) := by
  refine H.add g _ (fun q hq => ?_) (fun q hq => ?_) (zag_ ⟨cells, hr, hc.lt.mono fun b hb => ⟨⟨hb.1.1, hb.2⟩, hb.1.2⟩⟩)
  · rcases hq with hq | hq
    · exact (hr.ge hq).1
    · exact hq.1
  · rcases hq with hq | hq
    · exact (hr.ge hq).2
    · exact hq.2
end
structure Drawn (m : Nat) (gm : Gram) : Prop where
  nons : 0 ≤ gm.nons ∧ gm.nons ≤ 1000
  toks : 0 ≤ gm.toks ∧ gm.toks ≤ 1000
  some : 0 < gm.rules.length
  few : gm.rules.length ≤ m
  rights : ∀ r ∈ gm.rules, r.2.length ≤ 1000
end Go.Sh

namespace Go.Proofs.Yteabbgaffgpegaa
open Go Go.Sh Go.RowKit
abbrev gth (ft : Nat → Prop) (X : Option Addr) (c : Nat) (rs : List RuleL) : Thing := gow 106 ft X c rs
theorem rng8 : Array.range 8 = #[0, 1, 2, 3, 4, 5, 6, 7] := by decide
theorem rng10 : Array.range 10 = #[0, 1, 2, 3, 4, 5, 6, 7, 8, 9] := by decide
section
variable {w0 w : World} {L : List Thing} {bc N : Nat} {C : Option Addr} {cap : Nat} {bs : List Int} {k : Value → World → Prop}
theorem nilF (F : Nat → Prop) (w : World) : IntsF F w none [] := ⟨⟨by simp, fun h => by simp at h, fun j hj => by simp at hj⟩, fun h => by simp at h⟩
theorem ltF {F : Nat → Prop} {w : World} {X : Option Addr} {xs : List Int} (h : IntsF F w X xs) : IntsF (fun b => F b ∧ b < w.heap.size) w X xs := ⟨h.is, fun hp => ⟨h.foot hp, (IntsF.of_ints h.is).foot hp⟩⟩
set_option maxHeartbeats 6400000 in
theorem known_c {E : List Thing} (H : Apt w0 w (cur bc (.slice C bs.length cap) N :: E)) (hC : Byts w0 C bs) (hN : N ≤ 10000000) (hk : ∀ w' gm ft X c, Drawn 100 gm → Apt w0 w' (cur bc (.slice C bs.length cap) (N + 2) :: gth ft X c gm.rules :: E) → k (.agg #[.int .i64 gm.nons, .int .i64 gm.toks, .slice X gm.rules.length c]) w') :
    CallK Try.prog 149 [ptrv bc] k w := by
  refine enter149 ?_
  unfold S149
  refine zfd_ H inf26 fun b1 w1 H => ?_
  have H := H.insert 1
  simp only [List.take_succ_cons, List.take_zero, List.drop_succ_cons, List.drop_zero, List.nil_append, List.cons_append] at H
  refine zic_ H 0 rfl hC (by omega) (by omega) fun wA b _ hb8 H => ?_
  have hb8 := hb8 (by omega)
  simp only [List.set_cons_zero] at H
  have fin : ∀ (wB : World) (bX c : Nat) (gm : Gram) (cells : List Value), Drawn 100 gm → Gr wA wB → Row wB wA.heap.size 106 2 (some ⟨bX, 0, none⟩) gm.rules.length c cells → RuleCells (fun q => wA.heap.size ≤ q ∧ blk (some (⟨bX, 0, none⟩ : Addr)) ≠ some q) wB gm.rules cells → Do Try.prog (zab_ 26 (ptrv b1) (.agg #[.int .i64 gm.nons, .int .i64 gm.toks, .slice (some ⟨bX, 0, none⟩) gm.rules.length c])) (fun _ w' => Rd Try.prog (WS.at w') (zwb_ 26 (ptrv b1)) fun v => k v w') wB := fun wB bX c gm cells hd g hr hc => by
    have H := H.addGow g hr hc
    have H := H.insert 1
    simp only [List.take_succ_cons, List.take_zero, List.drop_succ_cons, List.drop_zero, List.nil_append, List.cons_append] at H
    refine zpb_ H 2 rfl sz26 rfl rfl rfl fun w2 H => ?_
    simp only [List.set_cons_zero, List.set_cons_succ] at H
    rw [zfe_, zfb_ zyb_ sz26 rfl (H.box 2 rfl)]
    have H := H.erase 2
    simp only [List.eraseIdx_cons_zero, List.eraseIdx_cons_succ] at H
    exact hk w2 gm _ _ c hd H
  obtain rfl | rfl | rfl | rfl | rfl | rfl | rfl | rfl : b = 0 ∨ b = 1 ∨ b = 2 ∨ b = 3 ∨ b = 4 ∨ b = 5 ∨ b = 6 ∨ b = 7 := by omega
  · simp only [show (((0 : Nat) : Int) = 0) from by omega, decide_true, decide_false, zq18, zq19, zq20, zq21, zq22, zq23, zq24, zq25, zq26, zq27, zq28, zq4, zq3, zq1, zq2, zq0, zq29, zq30, zq14, zq15, zq16, zq17, zq13, zq10, zq12, zq11, zq7, zq5, zq6, zq9, zq8, zq31, zq32, ite_T, ite_F, zq33, zq34, zq35, Nat.reduceEqDiff, len22, len24, fa26_0, fa26_1, fa26_2, len27, fa86_0, fa86_1, fa86_2, fa97_0, fa97_1, fa103_0, fa103_1, fa103_2, fa103_3, fa103_4, fa103_5, fa103_6, fa106_0, fa106_1]
    refine zt_ u27 inf3 (cells := ints [-1, 0, -2]) (by decide) (by decide) (by simp [Instr.fill, madeCells, Value.cells, rng3, ints]) rfl fun c0 v0 _ _ g0 _ r0 => ?_
    have i0 : IntsF (fun b => wA.heap.size ≤ b) v0 (some ⟨c0, 0, none⟩) [-1, 0, -2] := (IntsF.of_own (r0 _ (Nat.le_refl _))).mono fun b hb => Nat.le_trans (Gr.refl wA).size hb.1
    have G0 := g0
    rw [zub_ (cells := #[.int .i64 0, .slice (some ⟨c0, 0, none⟩) 3 3]) rfl]
    rw [zub_ (cells := #[.int .i64 0, .slice none 0 0]) rfl]
    refine zt_ u24 zgc_ (cells := [.int .i64 0, .slice (some ⟨c0, 0, none⟩) 3 3, .int .i64 0, .slice none 0 0]) (by decide) (by decide) (by simp [Instr.fill, madeCells, Value.cells, rng4]) rfl fun bX wB hX1 _ gB _ rB => ?_
    rw [bd26 (cells := #[.int .i64 1, .int .i64 2, .slice (some ⟨bX, 0, none⟩) 2 2]) rfl]
    have j0 := ((ltF i0).gr gB).mono (E := fun q => wA.heap.size ≤ q ∧ blk (some (⟨bX, 0, none⟩ : Addr)) ≠ some q) fun q hq => ⟨hq.1, fun e => absurd hq.2 (by have := Option.some.inj (show some bX = some q from e); omega)⟩
    exact fin wB bX 2 ⟨1, 2, [(0, [-1, 0, -2]), (0, [])]⟩ _ ⟨⟨by decide, by decide⟩, ⟨by decide, by decide⟩, by decide, by decide, by decide⟩ (ze_ G0 gB) (rB _ G0.size) (.cons (r := (0, [-1, 0, -2])) (Nat.le_refl _) j0 (.cons (r := (0, [])) (Nat.le_refl _) (nilF _ _) .nil))
  · simp only [show ¬ (((1 : Nat) : Int) = 0) from by omega, show (((1 : Nat) : Int) = 1) from by omega, decide_true, decide_false, zq18, zq19, zq20, zq21, zq22, zq23, zq24, zq25, zq26, zq27, zq28, zq4, zq3, zq1, zq2, zq0, zq29, zq30, zq14, zq15, zq16, zq17, zq13, zq10, zq12, zq11, zq7, zq5, zq6, zq9, zq8, zq31, zq32, ite_T, ite_F, zq33, zq34, zq35, Nat.reduceEqDiff, len22, len24, fa26_0, fa26_1, fa26_2, len27, fa86_0, fa86_1, fa86_2, fa97_0, fa97_1, fa103_0, fa103_1, fa103_2, fa103_3, fa103_4, fa103_5, fa103_6, fa106_0, fa106_1]
    refine zt_ u27 inf3 (cells := ints [0, 0]) (by decide) (by decide) (by simp [Instr.fill, madeCells, Value.cells, rng2, ints]) rfl fun c0 v0 _ _ g0 _ r0 => ?_
    have i0 : IntsF (fun b => wA.heap.size ≤ b) v0 (some ⟨c0, 0, none⟩) [0, 0] := (IntsF.of_own (r0 _ (Nat.le_refl _))).mono fun b hb => Nat.le_trans (Gr.refl wA).size hb.1
    have G0 := g0
    rw [zub_ (cells := #[.int .i64 0, .slice (some ⟨c0, 0, none⟩) 2 2]) rfl]
    refine zt_ u27 inf3 (cells := ints [-1, 0, -2]) (by decide) (by decide) (by simp [Instr.fill, madeCells, Value.cells, rng3, ints]) rfl fun c1 v1 _ _ g1 _ r1 => ?_
    have i1 : IntsF (fun b => wA.heap.size ≤ b) v1 (some ⟨c1, 0, none⟩) [-1, 0, -2] := (IntsF.of_own (r1 _ (Nat.le_refl _))).mono fun b hb => Nat.le_trans G0.size hb.1
    have G1 := ze_ G0 g1
    rw [zub_ (cells := #[.int .i64 0, .slice (some ⟨c1, 0, none⟩) 3 3]) rfl]
    refine zt_ u27 inf3 (cells := ints [-1, -2]) (by decide) (by decide) (by simp [Instr.fill, madeCells, Value.cells, rng2, ints]) rfl fun c2 v2 _ _ g2 _ r2 => ?_
    have i2 : IntsF (fun b => wA.heap.size ≤ b) v2 (some ⟨c2, 0, none⟩) [-1, -2] := (IntsF.of_own (r2 _ (Nat.le_refl _))).mono fun b hb => Nat.le_trans G1.size hb.1
    have G2 := ze_ G1 g2
    rw [zub_ (cells := #[.int .i64 0, .slice (some ⟨c2, 0, none⟩) 2 2]) rfl]
    refine zt_ u24 zgc_ (cells := [.int .i64 0, .slice (some ⟨c0, 0, none⟩) 2 2, .int .i64 0, .slice (some ⟨c1, 0, none⟩) 3 3, .int .i64 0, .slice (some ⟨c2, 0, none⟩) 2 2]) (by decide) (by decide) (by simp [Instr.fill, madeCells, Value.cells, rng6]) rfl fun bX wB hX1 _ gB _ rB => ?_
    rw [bd26 (cells := #[.int .i64 1, .int .i64 2, .slice (some ⟨bX, 0, none⟩) 3 3]) rfl]
    have j0 := ((ltF ((i0.gr g1).gr g2)).gr gB).mono (E := fun q => wA.heap.size ≤ q ∧ blk (some (⟨bX, 0, none⟩ : Addr)) ≠ some q) fun q hq => ⟨hq.1, fun e => absurd hq.2 (by have := Option.some.inj (show some bX = some q from e); omega)⟩
    have j1 := ((ltF (i1.gr g2)).gr gB).mono (E := fun q => wA.heap.size ≤ q ∧ blk (some (⟨bX, 0, none⟩ : Addr)) ≠ some q) fun q hq => ⟨hq.1, fun e => absurd hq.2 (by have := Option.some.inj (show some bX = some q from e); omega)⟩
    have j2 := ((ltF i2).gr gB).mono (E := fun q => wA.heap.size ≤ q ∧ blk (some (⟨bX, 0, none⟩ : Addr)) ≠ some q) fun q hq => ⟨hq.1, fun e => absurd hq.2 (by have := Option.some.inj (show some bX = some q from e); omega)⟩
    exact fin wB bX 3 ⟨1, 2, [(0, [0, 0]), (0, [-1, 0, -2]), (0, [-1, -2])]⟩ _ ⟨⟨by decide, by decide⟩, ⟨by decide, by decide⟩, by decide, by decide, by decide⟩ (ze_ G2 gB) (rB _ G2.size) (.cons (r := (0, [0, 0])) (Nat.le_refl _) j0 (.cons (r := (0, [-1, 0, -2])) (Nat.le_refl _) j1 (.cons (r := (0, [-1, -2])) (Nat.le_refl _) j2 .nil)))
  · simp only [show ¬ (((2 : Nat) : Int) = 0) from by omega, show ¬ (((2 : Nat) : Int) = 1) from by omega, show (((2 : Nat) : Int) = 2) from by omega, decide_true, decide_false, zq18, zq19, zq20, zq21, zq22, zq23, zq24, zq25, zq26, zq27, zq28, zq4, zq3, zq1, zq2, zq0, zq29, zq30, zq14, zq15, zq16, zq17, zq13, zq10, zq12, zq11, zq7, zq5, zq6, zq9, zq8, zq31, zq32, ite_T, ite_F, zq33, zq34, zq35, Nat.reduceEqDiff, len22, len24, fa26_0, fa26_1, fa26_2, len27, fa86_0, fa86_1, fa86_2, fa97_0, fa97_1, fa103_0, fa103_1, fa103_2, fa103_3, fa103_4, fa103_5, fa103_6, fa106_0, fa106_1]
    refine zt_ u27 inf3 (cells := ints [0, -3, 1]) (by decide) (by decide) (by simp [Instr.fill, madeCells, Value.cells, rng3, ints]) rfl fun c0 v0 _ _ g0 _ r0 => ?_
    have i0 : IntsF (fun b => wA.heap.size ≤ b) v0 (some ⟨c0, 0, none⟩) [0, -3, 1] := (IntsF.of_own (r0 _ (Nat.le_refl _))).mono fun b hb => Nat.le_trans (Gr.refl wA).size hb.1
    have G0 := g0
    rw [zub_ (cells := #[.int .i64 0, .slice (some ⟨c0, 0, none⟩) 3 3]) rfl]
    refine zt_ u27 inf3 (cells := ints [1]) (by decide) (by decide) (by simp [Instr.fill, madeCells, Value.cells, rng1, ints]) rfl fun c1 v1 _ _ g1 _ r1 => ?_
    have i1 : IntsF (fun b => wA.heap.size ≤ b) v1 (some ⟨c1, 0, none⟩) [1] := (IntsF.of_own (r1 _ (Nat.le_refl _))).mono fun b hb => Nat.le_trans G0.size hb.1
    have G1 := ze_ G0 g1
    rw [zub_ (cells := #[.int .i64 0, .slice (some ⟨c1, 0, none⟩) 1 1]) rfl]
    refine zt_ u27 inf3 (cells := ints [-1]) (by decide) (by decide) (by simp [Instr.fill, madeCells, Value.cells, rng1, ints]) rfl fun c2 v2 _ _ g2 _ r2 => ?_
    have i2 : IntsF (fun b => wA.heap.size ≤ b) v2 (some ⟨c2, 0, none⟩) [-1] := (IntsF.of_own (r2 _ (Nat.le_refl _))).mono fun b hb => Nat.le_trans G1.size hb.1
    have G2 := ze_ G1 g2
    rw [zub_ (cells := #[.int .i64 1, .slice (some ⟨c2, 0, none⟩) 1 1]) rfl]
    refine zt_ u27 inf3 (cells := ints [-2, 0, -2]) (by decide) (by decide) (by simp [Instr.fill, madeCells, Value.cells, rng3, ints]) rfl fun c3 v3 _ _ g3 _ r3 => ?_
    have i3 : IntsF (fun b => wA.heap.size ≤ b) v3 (some ⟨c3, 0, none⟩) [-2, 0, -2] := (IntsF.of_own (r3 _ (Nat.le_refl _))).mono fun b hb => Nat.le_trans G2.size hb.1
    have G3 := ze_ G2 g3
    rw [zub_ (cells := #[.int .i64 1, .slice (some ⟨c3, 0, none⟩) 3 3]) rfl]
    refine zt_ u24 zgc_ (cells := [.int .i64 0, .slice (some ⟨c0, 0, none⟩) 3 3, .int .i64 0, .slice (some ⟨c1, 0, none⟩) 1 1, .int .i64 1, .slice (some ⟨c2, 0, none⟩) 1 1, .int .i64 1, .slice (some ⟨c3, 0, none⟩) 3 3]) (by decide) (by decide) (by simp [Instr.fill, madeCells, Value.cells, rng8]) rfl fun bX wB hX1 _ gB _ rB => ?_
    rw [bd26 (cells := #[.int .i64 2, .int .i64 3, .slice (some ⟨bX, 0, none⟩) 4 4]) rfl]
    have j0 := ((ltF (((i0.gr g1).gr g2).gr g3)).gr gB).mono (E := fun q => wA.heap.size ≤ q ∧ blk (some (⟨bX, 0, none⟩ : Addr)) ≠ some q) fun q hq => ⟨hq.1, fun e => absurd hq.2 (by have := Option.some.inj (show some bX = some q from e); omega)⟩
    have j1 := ((ltF ((i1.gr g2).gr g3)).gr gB).mono (E := fun q => wA.heap.size ≤ q ∧ blk (some (⟨bX, 0, none⟩ : Addr)) ≠ some q) fun q hq => ⟨hq.1, fun e => absurd hq.2 (by have := Option.some.inj (show some bX = some q from e); omega)⟩
    have j2 := ((ltF (i2.gr g3)).gr gB).mono (E := fun q => wA.heap.size ≤ q ∧ blk (some (⟨bX, 0, none⟩ : Addr)) ≠ some q) fun q hq => ⟨hq.1, fun e => absurd hq.2 (by have := Option.some.inj (show some bX = some q from e); omega)⟩
    have j3 := ((ltF i3).gr gB).mono (E := fun q => wA.heap.size ≤ q ∧ blk (some (⟨bX, 0, none⟩ : Addr)) ≠ some q) fun q hq => ⟨hq.1, fun e => absurd hq.2 (by have := Option.some.inj (show some bX = some q from e); omega)⟩
    exact fin wB bX 4 ⟨2, 3, [(0, [0, -3, 1]), (0, [1]), (1, [-1]), (1, [-2, 0, -2])]⟩ _ ⟨⟨by decide, by decide⟩, ⟨by decide, by decide⟩, by decide, by decide, by decide⟩ (ze_ G3 gB) (rB _ G3.size) (.cons (r := (0, [0, -3, 1])) (Nat.le_refl _) j0 (.cons (r := (0, [1])) (Nat.le_refl _) j1 (.cons (r := (1, [-1])) (Nat.le_refl _) j2 (.cons (r := (1, [-2, 0, -2])) (Nat.le_refl _) j3 .nil))))
  · simp only [show ¬ (((3 : Nat) : Int) = 0) from by omega, show ¬ (((3 : Nat) : Int) = 1) from by omega, show ¬ (((3 : Nat) : Int) = 2) from by omega, show (((3 : Nat) : Int) = 3) from by omega, decide_true, decide_false, zq18, zq19, zq20, zq21, zq22, zq23, zq24, zq25, zq26, zq27, zq28, zq4, zq3, zq1, zq2, zq0, zq29, zq30, zq14, zq15, zq16, zq17, zq13, zq10, zq12, zq11, zq7, zq5, zq6, zq9, zq8, zq31, zq32, ite_T, ite_F, zq33, zq34, zq35, Nat.reduceEqDiff, len22, len24, fa26_0, fa26_1, fa26_2, len27, fa86_0, fa86_1, fa86_2, fa97_0, fa97_1, fa103_0, fa103_1, fa103_2, fa103_3, fa103_4, fa103_5, fa103_6, fa106_0, fa106_1]
    refine zt_ u27 inf3 (cells := ints [-1, 1]) (by decide) (by decide) (by simp [Instr.fill, madeCells, Value.cells, rng2, ints]) rfl fun c0 v0 _ _ g0 _ r0 => ?_
    have i0 : IntsF (fun b => wA.heap.size ≤ b) v0 (some ⟨c0, 0, none⟩) [-1, 1] := (IntsF.of_own (r0 _ (Nat.le_refl _))).mono fun b hb => Nat.le_trans (Gr.refl wA).size hb.1
    have G0 := g0
    rw [zub_ (cells := #[.int .i64 0, .slice (some ⟨c0, 0, none⟩) 2 2]) rfl]
    refine zt_ u27 inf3 (cells := ints [-2, 1]) (by decide) (by decide) (by simp [Instr.fill, madeCells, Value.cells, rng2, ints]) rfl fun c1 v1 _ _ g1 _ r1 => ?_
    have i1 : IntsF (fun b => wA.heap.size ≤ b) v1 (some ⟨c1, 0, none⟩) [-2, 1] := (IntsF.of_own (r1 _ (Nat.le_refl _))).mono fun b hb => Nat.le_trans G0.size hb.1
    have G1 := ze_ G0 g1
    rw [zub_ (cells := #[.int .i64 1, .slice (some ⟨c1, 0, none⟩) 2 2]) rfl]
    refine zt_ u27 inf3 (cells := ints [-2]) (by decide) (by decide) (by simp [Instr.fill, madeCells, Value.cells, rng1, ints]) rfl fun c2 v2 _ _ g2 _ r2 => ?_
    have i2 : IntsF (fun b => wA.heap.size ≤ b) v2 (some ⟨c2, 0, none⟩) [-2] := (IntsF.of_own (r2 _ (Nat.le_refl _))).mono fun b hb => Nat.le_trans G1.size hb.1
    have G2 := ze_ G1 g2
    rw [zub_ (cells := #[.int .i64 1, .slice (some ⟨c2, 0, none⟩) 1 1]) rfl]
    rw [zub_ (cells := #[.int .i64 1, .slice none 0 0]) rfl]
    refine zt_ u24 zgc_ (cells := [.int .i64 0, .slice (some ⟨c0, 0, none⟩) 2 2, .int .i64 1, .slice (some ⟨c1, 0, none⟩) 2 2, .int .i64 1, .slice (some ⟨c2, 0, none⟩) 1 1, .int .i64 1, .slice none 0 0]) (by decide) (by decide) (by simp [Instr.fill, madeCells, Value.cells, rng8]) rfl fun bX wB hX1 _ gB _ rB => ?_
    rw [bd26 (cells := #[.int .i64 2, .int .i64 2, .slice (some ⟨bX, 0, none⟩) 4 4]) rfl]
    have j0 := ((ltF ((i0.gr g1).gr g2)).gr gB).mono (E := fun q => wA.heap.size ≤ q ∧ blk (some (⟨bX, 0, none⟩ : Addr)) ≠ some q) fun q hq => ⟨hq.1, fun e => absurd hq.2 (by have := Option.some.inj (show some bX = some q from e); omega)⟩
    have j1 := ((ltF (i1.gr g2)).gr gB).mono (E := fun q => wA.heap.size ≤ q ∧ blk (some (⟨bX, 0, none⟩ : Addr)) ≠ some q) fun q hq => ⟨hq.1, fun e => absurd hq.2 (by have := Option.some.inj (show some bX = some q from e); omega)⟩
    have j2 := ((ltF i2).gr gB).mono (E := fun q => wA.heap.size ≤ q ∧ blk (some (⟨bX, 0, none⟩ : Addr)) ≠ some q) fun q hq => ⟨hq.1, fun e => absurd hq.2 (by have := Option.some.inj (show some bX = some q from e); omega)⟩
    exact fin wB bX 4 ⟨2, 2, [(0, [-1, 1]), (1, [-2, 1]), (1, [-2]), (1, [])]⟩ _ ⟨⟨by decide, by decide⟩, ⟨by decide, by decide⟩, by decide, by decide, by decide⟩ (ze_ G2 gB) (rB _ G2.size) (.cons (r := (0, [-1, 1])) (Nat.le_refl _) j0 (.cons (r := (1, [-2, 1])) (Nat.le_refl _) j1 (.cons (r := (1, [-2])) (Nat.le_refl _) j2 (.cons (r := (1, [])) (Nat.le_refl _) (nilF _ _) .nil))))
  · simp only [show ¬ (((4 : Nat) : Int) = 0) from by omega, show ¬ (((4 : Nat) : Int) = 1) from by omega, show ¬ (((4 : Nat) : Int) = 2) from by omega, show ¬ (((4 : Nat) : Int) = 3) from by omega, show (((4 : Nat) : Int) = 4) from by omega, decide_true, decide_false, zq18, zq19, zq20, zq21, zq22, zq23, zq24, zq25, zq26, zq27, zq28, zq4, zq3, zq1, zq2, zq0, zq29, zq30, zq14, zq15, zq16, zq17, zq13, zq10, zq12, zq11, zq7, zq5, zq6, zq9, zq8, zq31, zq32, ite_T, ite_F, zq33, zq34, zq35, Nat.reduceEqDiff, len22, len24, fa26_0, fa26_1, fa26_2, len27, fa86_0, fa86_1, fa86_2, fa97_0, fa97_1, fa103_0, fa103_1, fa103_2, fa103_3, fa103_4, fa103_5, fa103_6, fa106_0, fa106_1]
    refine zt_ u27 inf3 (cells := ints [0]) (by decide) (by decide) (by simp [Instr.fill, madeCells, Value.cells, rng1, ints]) rfl fun c0 v0 _ _ g0 _ r0 => ?_
    have i0 : IntsF (fun b => wA.heap.size ≤ b) v0 (some ⟨c0, 0, none⟩) [0] := (IntsF.of_own (r0 _ (Nat.le_refl _))).mono fun b hb => Nat.le_trans (Gr.refl wA).size hb.1
    have G0 := g0
    rw [zub_ (cells := #[.int .i64 0, .slice (some ⟨c0, 0, none⟩) 1 1]) rfl]
    refine zt_ u27 inf3 (cells := ints [1]) (by decide) (by decide) (by simp [Instr.fill, madeCells, Value.cells, rng1, ints]) rfl fun c1 v1 _ _ g1 _ r1 => ?_
    have i1 : IntsF (fun b => wA.heap.size ≤ b) v1 (some ⟨c1, 0, none⟩) [1] := (IntsF.of_own (r1 _ (Nat.le_refl _))).mono fun b hb => Nat.le_trans G0.size hb.1
    have G1 := ze_ G0 g1
    rw [zub_ (cells := #[.int .i64 0, .slice (some ⟨c1, 0, none⟩) 1 1]) rfl]
    refine zt_ u27 inf3 (cells := ints [0, 1]) (by decide) (by decide) (by simp [Instr.fill, madeCells, Value.cells, rng2, ints]) rfl fun c2 v2 _ _ g2 _ r2 => ?_
    have i2 : IntsF (fun b => wA.heap.size ≤ b) v2 (some ⟨c2, 0, none⟩) [0, 1] := (IntsF.of_own (r2 _ (Nat.le_refl _))).mono fun b hb => Nat.le_trans G1.size hb.1
    have G2 := ze_ G1 g2
    rw [zub_ (cells := #[.int .i64 1, .slice (some ⟨c2, 0, none⟩) 2 2]) rfl]
    refine zt_ u27 inf3 (cells := ints [-1]) (by decide) (by decide) (by simp [Instr.fill, madeCells, Value.cells, rng1, ints]) rfl fun c3 v3 _ _ g3 _ r3 => ?_
    have i3 : IntsF (fun b => wA.heap.size ≤ b) v3 (some ⟨c3, 0, none⟩) [-1] := (IntsF.of_own (r3 _ (Nat.le_refl _))).mono fun b hb => Nat.le_trans G2.size hb.1
    have G3 := ze_ G2 g3
    rw [zub_ (cells := #[.int .i64 1, .slice (some ⟨c3, 0, none⟩) 1 1]) rfl]
    rw [zub_ (cells := #[.int .i64 1, .slice none 0 0]) rfl]
    refine zt_ u24 zgc_ (cells := [.int .i64 0, .slice (some ⟨c0, 0, none⟩) 1 1, .int .i64 0, .slice (some ⟨c1, 0, none⟩) 1 1, .int .i64 1, .slice (some ⟨c2, 0, none⟩) 2 2, .int .i64 1, .slice (some ⟨c3, 0, none⟩) 1 1, .int .i64 1, .slice none 0 0]) (by decide) (by decide) (by simp [Instr.fill, madeCells, Value.cells, rng10]) rfl fun bX wB hX1 _ gB _ rB => ?_
    rw [bd26 (cells := #[.int .i64 2, .int .i64 1, .slice (some ⟨bX, 0, none⟩) 5 5]) rfl]
    have j0 := ((ltF (((i0.gr g1).gr g2).gr g3)).gr gB).mono (E := fun q => wA.heap.size ≤ q ∧ blk (some (⟨bX, 0, none⟩ : Addr)) ≠ some q) fun q hq => ⟨hq.1, fun e => absurd hq.2 (by have := Option.some.inj (show some bX = some q from e); omega)⟩
    have j1 := ((ltF ((i1.gr g2).gr g3)).gr gB).mono (E := fun q => wA.heap.size ≤ q ∧ blk (some (⟨bX, 0, none⟩ : Addr)) ≠ some q) fun q hq => ⟨hq.1, fun e => absurd hq.2 (by have := Option.some.inj (show some bX = some q from e); omega)⟩
    have j2 := ((ltF (i2.gr g3)).gr gB).mono (E := fun q => wA.heap.size ≤ q ∧ blk (some (⟨bX, 0, none⟩ : Addr)) ≠ some q) fun q hq => ⟨hq.1, fun e => absurd hq.2 (by have := Option.some.inj (show some bX = some q from e); omega)⟩
    have j3 := ((ltF i3).gr gB).mono (E := fun q => wA.heap.size ≤ q ∧ blk (some (⟨bX, 0, none⟩ : Addr)) ≠ some q) fun q hq => ⟨hq.1, fun e => absurd hq.2 (by have := Option.some.inj (show some bX = some q from e); omega)⟩
    exact fin wB bX 5 ⟨2, 1, [(0, [0]), (0, [1]), (1, [0, 1]), (1, [-1]), (1, [])]⟩ _ ⟨⟨by decide, by decide⟩, ⟨by decide, by decide⟩, by decide, by decide, by decide⟩ (ze_ G3 gB) (rB _ G3.size) (.cons (r := (0, [0])) (Nat.le_refl _) j0 (.cons (r := (0, [1])) (Nat.le_refl _) j1 (.cons (r := (1, [0, 1])) (Nat.le_refl _) j2 (.cons (r := (1, [-1])) (Nat.le_refl _) j3 (.cons (r := (1, [])) (Nat.le_refl _) (nilF _ _) .nil)))))
  · simp only [show ¬ (((5 : Nat) : Int) = 0) from by omega, show ¬ (((5 : Nat) : Int) = 1) from by omega, show ¬ (((5 : Nat) : Int) = 2) from by omega, show ¬ (((5 : Nat) : Int) = 3) from by omega, show ¬ (((5 : Nat) : Int) = 4) from by omega, show (((5 : Nat) : Int) = 5) from by omega, decide_true, decide_false, zq18, zq19, zq20, zq21, zq22, zq23, zq24, zq25, zq26, zq27, zq28, zq4, zq3, zq1, zq2, zq0, zq29, zq30, zq14, zq15, zq16, zq17, zq13, zq10, zq12, zq11, zq7, zq5, zq6, zq9, zq8, zq31, zq32, ite_T, ite_F, zq33, zq34, zq35, Nat.reduceEqDiff, len22, len24, fa26_0, fa26_1, fa26_2, len27, fa86_0, fa86_1, fa86_2, fa97_0, fa97_1, fa103_0, fa103_1, fa103_2, fa103_3, fa103_4, fa103_5, fa103_6, fa106_0, fa106_1]
    refine zt_ u27 inf3 (cells := ints [-1, 0, -1]) (by decide) (by decide) (by simp [Instr.fill, madeCells, Value.cells, rng3, ints]) rfl fun c0 v0 _ _ g0 _ r0 => ?_
    have i0 : IntsF (fun b => wA.heap.size ≤ b) v0 (some ⟨c0, 0, none⟩) [-1, 0, -1] := (IntsF.of_own (r0 _ (Nat.le_refl _))).mono fun b hb => Nat.le_trans (Gr.refl wA).size hb.1
    have G0 := g0
    rw [zub_ (cells := #[.int .i64 0, .slice (some ⟨c0, 0, none⟩) 3 3]) rfl]
    refine zt_ u27 inf3 (cells := ints [-2, 0, -2]) (by decide) (by decide) (by simp [Instr.fill, madeCells, Value.cells, rng3, ints]) rfl fun c1 v1 _ _ g1 _ r1 => ?_
    have i1 : IntsF (fun b => wA.heap.size ≤ b) v1 (some ⟨c1, 0, none⟩) [-2, 0, -2] := (IntsF.of_own (r1 _ (Nat.le_refl _))).mono fun b hb => Nat.le_trans G0.size hb.1
    have G1 := ze_ G0 g1
    rw [zub_ (cells := #[.int .i64 0, .slice (some ⟨c1, 0, none⟩) 3 3]) rfl]
    refine zt_ u27 inf3 (cells := ints [-1]) (by decide) (by decide) (by simp [Instr.fill, madeCells, Value.cells, rng1, ints]) rfl fun c2 v2 _ _ g2 _ r2 => ?_
    have i2 : IntsF (fun b => wA.heap.size ≤ b) v2 (some ⟨c2, 0, none⟩) [-1] := (IntsF.of_own (r2 _ (Nat.le_refl _))).mono fun b hb => Nat.le_trans G1.size hb.1
    have G2 := ze_ G1 g2
    rw [zub_ (cells := #[.int .i64 0, .slice (some ⟨c2, 0, none⟩) 1 1]) rfl]
    refine zt_ u27 inf3 (cells := ints [-2]) (by decide) (by decide) (by simp [Instr.fill, madeCells, Value.cells, rng1, ints]) rfl fun c3 v3 _ _ g3 _ r3 => ?_
    have i3 : IntsF (fun b => wA.heap.size ≤ b) v3 (some ⟨c3, 0, none⟩) [-2] := (IntsF.of_own (r3 _ (Nat.le_refl _))).mono fun b hb => Nat.le_trans G2.size hb.1
    have G3 := ze_ G2 g3
    rw [zub_ (cells := #[.int .i64 0, .slice (some ⟨c3, 0, none⟩) 1 1]) rfl]
    rw [zub_ (cells := #[.int .i64 0, .slice none 0 0]) rfl]
    refine zt_ u24 zgc_ (cells := [.int .i64 0, .slice (some ⟨c0, 0, none⟩) 3 3, .int .i64 0, .slice (some ⟨c1, 0, none⟩) 3 3, .int .i64 0, .slice (some ⟨c2, 0, none⟩) 1 1, .int .i64 0, .slice (some ⟨c3, 0, none⟩) 1 1, .int .i64 0, .slice none 0 0]) (by decide) (by decide) (by simp [Instr.fill, madeCells, Value.cells, rng10]) rfl fun bX wB hX1 _ gB _ rB => ?_
    rw [bd26 (cells := #[.int .i64 1, .int .i64 2, .slice (some ⟨bX, 0, none⟩) 5 5]) rfl]
    have j0 := ((ltF (((i0.gr g1).gr g2).gr g3)).gr gB).mono (E := fun q => wA.heap.size ≤ q ∧ blk (some (⟨bX, 0, none⟩ : Addr)) ≠ some q) fun q hq => ⟨hq.1, fun e => absurd hq.2 (by have := Option.some.inj (show some bX = some q from e); omega)⟩
    have j1 := ((ltF ((i1.gr g2).gr g3)).gr gB).mono (E := fun q => wA.heap.size ≤ q ∧ blk (some (⟨bX, 0, none⟩ : Addr)) ≠ some q) fun q hq => ⟨hq.1, fun e => absurd hq.2 (by have := Option.some.inj (show some bX = some q from e); omega)⟩
    have j2 := ((ltF (i2.gr g3)).gr gB).mono (E := fun q => wA.heap.size ≤ q ∧ blk (some (⟨bX, 0, none⟩ : Addr)) ≠ some q) fun q hq => ⟨hq.1, fun e => absurd hq.2 (by have := Option.some.inj (show some bX = some q from e); omega)⟩
    have j3 := ((ltF i3).gr gB).mono (E := fun q => wA.heap.size ≤ q ∧ blk (some (⟨bX, 0, none⟩ : Addr)) ≠ some q) fun q hq => ⟨hq.1, fun e => absurd hq.2 (by have := Option.some.inj (show some bX = some q from e); omega)⟩
    exact fin wB bX 5 ⟨1, 2, [(0, [-1, 0, -1]), (0, [-2, 0, -2]), (0, [-1]), (0, [-2]), (0, [])]⟩ _ ⟨⟨by decide, by decide⟩, ⟨by decide, by decide⟩, by decide, by decide, by decide⟩ (ze_ G3 gB) (rB _ G3.size) (.cons (r := (0, [-1, 0, -1])) (Nat.le_refl _) j0 (.cons (r := (0, [-2, 0, -2])) (Nat.le_refl _) j1 (.cons (r := (0, [-1])) (Nat.le_refl _) j2 (.cons (r := (0, [-2])) (Nat.le_refl _) j3 (.cons (r := (0, [])) (Nat.le_refl _) (nilF _ _) .nil)))))
  · simp only [show ¬ (((6 : Nat) : Int) = 0) from by omega, show ¬ (((6 : Nat) : Int) = 1) from by omega, show ¬ (((6 : Nat) : Int) = 2) from by omega, show ¬ (((6 : Nat) : Int) = 3) from by omega, show ¬ (((6 : Nat) : Int) = 4) from by omega, show ¬ (((6 : Nat) : Int) = 5) from by omega, show (((6 : Nat) : Int) = 6) from by omega, decide_true, decide_false, zq18, zq19, zq20, zq21, zq22, zq23, zq24, zq25, zq26, zq27, zq28, zq4, zq3, zq1, zq2, zq0, zq29, zq30, zq14, zq15, zq16, zq17, zq13, zq10, zq12, zq11, zq7, zq5, zq6, zq9, zq8, zq31, zq32, ite_T, ite_F, zq33, zq34, zq35, Nat.reduceEqDiff, len22, len24, fa26_0, fa26_1, fa26_2, len27, fa86_0, fa86_1, fa86_2, fa97_0, fa97_1, fa103_0, fa103_1, fa103_2, fa103_3, fa103_4, fa103_5, fa103_6, fa106_0, fa106_1]
    refine zt_ u27 inf3 (cells := ints [1, 2]) (by decide) (by decide) (by simp [Instr.fill, madeCells, Value.cells, rng2, ints]) rfl fun c0 v0 _ _ g0 _ r0 => ?_
    have i0 : IntsF (fun b => wA.heap.size ≤ b) v0 (some ⟨c0, 0, none⟩) [1, 2] := (IntsF.of_own (r0 _ (Nat.le_refl _))).mono fun b hb => Nat.le_trans (Gr.refl wA).size hb.1
    have G0 := g0
    rw [zub_ (cells := #[.int .i64 0, .slice (some ⟨c0, 0, none⟩) 2 2]) rfl]
    refine zt_ u27 inf3 (cells := ints [-1, 1]) (by decide) (by decide) (by simp [Instr.fill, madeCells, Value.cells, rng2, ints]) rfl fun c1 v1 _ _ g1 _ r1 => ?_
    have i1 : IntsF (fun b => wA.heap.size ≤ b) v1 (some ⟨c1, 0, none⟩) [-1, 1] := (IntsF.of_own (r1 _ (Nat.le_refl _))).mono fun b hb => Nat.le_trans G0.size hb.1
    have G1 := ze_ G0 g1
    rw [zub_ (cells := #[.int .i64 1, .slice (some ⟨c1, 0, none⟩) 2 2]) rfl]
    rw [zub_ (cells := #[.int .i64 1, .slice none 0 0]) rfl]
    refine zt_ u27 inf3 (cells := ints [-2, 2]) (by decide) (by decide) (by simp [Instr.fill, madeCells, Value.cells, rng2, ints]) rfl fun c3 v3 _ _ g3 _ r3 => ?_
    have i3 : IntsF (fun b => wA.heap.size ≤ b) v3 (some ⟨c3, 0, none⟩) [-2, 2] := (IntsF.of_own (r3 _ (Nat.le_refl _))).mono fun b hb => Nat.le_trans G1.size hb.1
    have G3 := ze_ G1 g3
    rw [zub_ (cells := #[.int .i64 2, .slice (some ⟨c3, 0, none⟩) 2 2]) rfl]
    rw [zub_ (cells := #[.int .i64 2, .slice none 0 0]) rfl]
    refine zt_ u24 zgc_ (cells := [.int .i64 0, .slice (some ⟨c0, 0, none⟩) 2 2, .int .i64 1, .slice (some ⟨c1, 0, none⟩) 2 2, .int .i64 1, .slice none 0 0, .int .i64 2, .slice (some ⟨c3, 0, none⟩) 2 2, .int .i64 2, .slice none 0 0]) (by decide) (by decide) (by simp [Instr.fill, madeCells, Value.cells, rng10]) rfl fun bX wB hX1 _ gB _ rB => ?_
    rw [bd26 (cells := #[.int .i64 3, .int .i64 2, .slice (some ⟨bX, 0, none⟩) 5 5]) rfl]
    have j0 := ((ltF ((i0.gr g1).gr g3)).gr gB).mono (E := fun q => wA.heap.size ≤ q ∧ blk (some (⟨bX, 0, none⟩ : Addr)) ≠ some q) fun q hq => ⟨hq.1, fun e => absurd hq.2 (by have := Option.some.inj (show some bX = some q from e); omega)⟩
    have j1 := ((ltF (i1.gr g3)).gr gB).mono (E := fun q => wA.heap.size ≤ q ∧ blk (some (⟨bX, 0, none⟩ : Addr)) ≠ some q) fun q hq => ⟨hq.1, fun e => absurd hq.2 (by have := Option.some.inj (show some bX = some q from e); omega)⟩
    have j3 := ((ltF i3).gr gB).mono (E := fun q => wA.heap.size ≤ q ∧ blk (some (⟨bX, 0, none⟩ : Addr)) ≠ some q) fun q hq => ⟨hq.1, fun e => absurd hq.2 (by have := Option.some.inj (show some bX = some q from e); omega)⟩
    exact fin wB bX 5 ⟨3, 2, [(0, [1, 2]), (1, [-1, 1]), (1, []), (2, [-2, 2]), (2, [])]⟩ _ ⟨⟨by decide, by decide⟩, ⟨by decide, by decide⟩, by decide, by decide, by decide⟩ (ze_ G3 gB) (rB _ G3.size) (.cons (r := (0, [1, 2])) (Nat.le_refl _) j0 (.cons (r := (1, [-1, 1])) (Nat.le_refl _) j1 (.cons (r := (1, [])) (Nat.le_refl _) (nilF _ _) (.cons (r := (2, [-2, 2])) (Nat.le_refl _) j3 (.cons (r := (2, [])) (Nat.le_refl _) (nilF _ _) .nil)))))
  · simp only [show ¬ (((7 : Nat) : Int) = 0) from by omega, show ¬ (((7 : Nat) : Int) = 1) from by omega, show ¬ (((7 : Nat) : Int) = 2) from by omega, show ¬ (((7 : Nat) : Int) = 3) from by omega, show ¬ (((7 : Nat) : Int) = 4) from by omega, show ¬ (((7 : Nat) : Int) = 5) from by omega, show ¬ (((7 : Nat) : Int) = 6) from by omega, decide_true, decide_false, zq18, zq19, zq20, zq21, zq22, zq23, zq24, zq25, zq26, zq27, zq28, zq4, zq3, zq1, zq2, zq0, zq29, zq30, zq14, zq15, zq16, zq17, zq13, zq10, zq12, zq11, zq7, zq5, zq6, zq9, zq8, zq31, zq32, ite_T, ite_F, zq33, zq34, zq35, Nat.reduceEqDiff, len22, len24, fa26_0, fa26_1, fa26_2, len27, fa86_0, fa86_1, fa86_2, fa97_0, fa97_1, fa103_0, fa103_1, fa103_2, fa103_3, fa103_4, fa103_5, fa103_6, fa106_0, fa106_1]
    refine zt_ u27 inf3 (cells := ints [0, 0]) (by decide) (by decide) (by simp [Instr.fill, madeCells, Value.cells, rng2, ints]) rfl fun c0 v0 _ _ g0 _ r0 => ?_
    have i0 : IntsF (fun b => wA.heap.size ≤ b) v0 (some ⟨c0, 0, none⟩) [0, 0] := (IntsF.of_own (r0 _ (Nat.le_refl _))).mono fun b hb => Nat.le_trans (Gr.refl wA).size hb.1
    have G0 := g0
    rw [zub_ (cells := #[.int .i64 0, .slice (some ⟨c0, 0, none⟩) 2 2]) rfl]
    refine zt_ u27 inf3 (cells := ints [-1]) (by decide) (by decide) (by simp [Instr.fill, madeCells, Value.cells, rng1, ints]) rfl fun c1 v1 _ _ g1 _ r1 => ?_
    have i1 : IntsF (fun b => wA.heap.size ≤ b) v1 (some ⟨c1, 0, none⟩) [-1] := (IntsF.of_own (r1 _ (Nat.le_refl _))).mono fun b hb => Nat.le_trans G0.size hb.1
    have G1 := ze_ G0 g1
    rw [zub_ (cells := #[.int .i64 0, .slice (some ⟨c1, 0, none⟩) 1 1]) rfl]
    refine zt_ u27 inf3 (cells := ints [-2, 1]) (by decide) (by decide) (by simp [Instr.fill, madeCells, Value.cells, rng2, ints]) rfl fun c2 v2 _ _ g2 _ r2 => ?_
    have i2 : IntsF (fun b => wA.heap.size ≤ b) v2 (some ⟨c2, 0, none⟩) [-2, 1] := (IntsF.of_own (r2 _ (Nat.le_refl _))).mono fun b hb => Nat.le_trans G1.size hb.1
    have G2 := ze_ G1 g2
    rw [zub_ (cells := #[.int .i64 1, .slice (some ⟨c2, 0, none⟩) 2 2]) rfl]
    refine zt_ u24 zgc_ (cells := [.int .i64 0, .slice (some ⟨c0, 0, none⟩) 2 2, .int .i64 0, .slice (some ⟨c1, 0, none⟩) 1 1, .int .i64 1, .slice (some ⟨c2, 0, none⟩) 2 2]) (by decide) (by decide) (by simp [Instr.fill, madeCells, Value.cells, rng6]) rfl fun bX wB hX1 _ gB _ rB => ?_
    rw [bd26 (cells := #[.int .i64 2, .int .i64 2, .slice (some ⟨bX, 0, none⟩) 3 3]) rfl]
    have j0 := ((ltF ((i0.gr g1).gr g2)).gr gB).mono (E := fun q => wA.heap.size ≤ q ∧ blk (some (⟨bX, 0, none⟩ : Addr)) ≠ some q) fun q hq => ⟨hq.1, fun e => absurd hq.2 (by have := Option.some.inj (show some bX = some q from e); omega)⟩
    have j1 := ((ltF (i1.gr g2)).gr gB).mono (E := fun q => wA.heap.size ≤ q ∧ blk (some (⟨bX, 0, none⟩ : Addr)) ≠ some q) fun q hq => ⟨hq.1, fun e => absurd hq.2 (by have := Option.some.inj (show some bX = some q from e); omega)⟩
    have j2 := ((ltF i2).gr gB).mono (E := fun q => wA.heap.size ≤ q ∧ blk (some (⟨bX, 0, none⟩ : Addr)) ≠ some q) fun q hq => ⟨hq.1, fun e => absurd hq.2 (by have := Option.some.inj (show some bX = some q from e); omega)⟩
    exact fin wB bX 3 ⟨2, 2, [(0, [0, 0]), (0, [-1]), (1, [-2, 1])]⟩ _ ⟨⟨by decide, by decide⟩, ⟨by decide, by decide⟩, by decide, by decide, by decide⟩ (ze_ G2 gB) (rB _ G2.size) (.cons (r := (0, [0, 0])) (Nat.le_refl _) j0 (.cons (r := (0, [-1])) (Nat.le_refl _) j1 (.cons (r := (1, [-2, 1])) (Nat.le_refl _) j2 .nil)))
end
section
variable {w0 w : World} {L E : List Thing} {bc N : Nat} {C : Option Addr} {cap : Nat} {bs : List Int} {k : Value → World → Prop}
theorem zgf_ {n m : Nat} {cv : Value} (H : Apt w0 w (cur bc cv n :: E)) (h : n ≤ m) : Apt w0 w (cur bc cv m :: E) := by
  obtain ⟨a, s, h0, h1, H⟩ := H.openCur 0 rfl
  simp only [List.set_cons_zero] at H
  have H := H.shutCur (N := m) 0 rfl h0 (by omega)
  simpa only [List.set_cons_zero] using H
theorem nilGow {e : Nat} (H : Apt w0 w L) : Apt w0 w (L ++ [gow e (fun _ => False) none 0 []]) :=
  H.add (Gr.refl w) _ (fun q hq => by rcases hq with hq | hq; cases hq; exact hq.elim) (fun q hq => by rcases hq with hq | hq; cases hq; exact hq.elim) (zag_ (B := 0) ⟨[], Row.nil _ _ _ _, .nil⟩)
theorem set_same {i : Nat} {a : Thing} (hi : L[i]? = some a) : L.set i a = L := by
  obtain ⟨h, e⟩ := List.getElem?_eq_some_iff.1 hi
  rw [← e, List.set_getElem_self]
theorem forget (H : Apt w0 w L) (j : Nat) {a : Thing} (hj : L[j]? = some a) : Apt w0 w (L.set j emp) :=
  H.weaken j hj (fun q hq => hq.elim) (fun _ _ _ => trivial) fun _ _ _ _ => trivial
theorem blk_ad {w : World} {B e sz n c : Nat} {X : Option Addr} {cells : List Value} (h : Row w B e sz X n c cells) (hn : 0 < n) : blk X = some (ad X).block := by
  have := h.ptr hn
  conv => lhs; rw [this]
  rfl
set_option maxHeartbeats 1600000 in
theorem put2_c (H : Apt w0 w L) (i j : Nat) (hij : i ≠ j) {X Y : Option Addr} {c d : Nat} {rs : List RuleL} {r : RuleL} {ft : Nat → Prop} (hi : L[i]? = some (gth ft X c rs)) (hj : L[j]? = some (ows Y d r.2)) (hl : rs.length ≤ 1000)
    (hk : ∀ w' ft' X' c' rs', (rs' = rs ∧ 0 < rs.length ∨ rs' = rs ++ [r]) → Apt w0 w' ((L.set i (gth ft' X' c' rs')).set j emp) → k (.slice X' (List.length rs') c') w') :
    CallK Try.prog 150 [.slice X rs.length c, .agg #[.int .i64 r.1, .slice Y r.2.length d]] k w := by
  refine enter150 ?_
  unfold S150
  refine zfc_ fun b1 w1 g1 hb1 hB1 => ?_
  have H := H.step g1
  have hR := (H.gow i hi).read
  have hY := H.own j hj
  simp only [zq18, zq19, zq20, zq21, zq22, zq23, zq24, zq25, zq26, zq27, zq28, zq4, zq3, zq1, zq2, zq0, zq29, zq30, zq14, zq15, zq16, zq17, zq13, zq10, zq12, zq11, zq7, zq5, zq6, zq9, zq8, zq31, zq32, ite_T, ite_F, zq33, zq34, zq35, Nat.reduceEqDiff, len22, len24, fa26_0, fa26_1, fa26_2, len27, fa86_0, fa86_1, fa86_2, fa97_0, fa97_1, fa103_0, fa103_1, fa103_2, fa103_3, fa103_4, fa103_5, fa103_6, fa106_0, fa106_1]
  refine zad_ rs.length 0 (fun q f w' => q ≤ rs.length ∧ f 9 = .int .i64 q ∧ Gr w1 w') ⟨Nat.zero_le _, rfl, Gr.refl _⟩ ?_
  rintro q f w2 NN hag ⟨hq, h9, g2⟩ hN
  have f0 : f 0 = .slice X rs.length c := hag 0 (by decide)
  have f3 : f 3 = ptrv b1 := hag 3 (by decide)
  have f7 : f 7 = .slice X rs.length c := hag 7 (by decide)
  have f8 : f 8 = .int .i64 rs.length := hag 8 (by decide)
  simp only [f0, f3, f7, f8, h9, zq18, zq19, zq20, zq21, zq22, zq23, zq24, zq25, zq26, zq27, zq28, zq4, zq3, zq1, zq2, zq0, zq29, zq30, zq14, zq15, zq16, zq17, zq13, zq10, zq12, zq11, zq7, zq5, zq6, zq9, zq8, zq31, zq32, ite_T, ite_F, zq33, zq34, zq35, Nat.reduceEqDiff, len22, len24, fa26_0, fa26_1, fa26_2, len27, fa86_0, fa86_1, fa86_2, fa97_0, fa97_1, fa103_0, fa103_1, fa103_2, fa103_3, fa103_4, fa103_5, fa103_6, fa106_0, fa106_1]
  have H2 := H.step g2
  have hB2 := hB1.gr g2
  by_cases hlt : q < rs.length
  case neg =>
    simp only [show ¬ ((q : Int) < rs.length) from by omega, decide_false, zq18, zq19, zq20, zq21, zq22, zq23, zq24, zq25, zq26, zq27, zq28, zq4, zq3, zq1, zq2, zq0, zq29, zq30, zq14, zq15, zq16, zq17, zq13, zq10, zq12, zq11, zq7, zq5, zq6, zq9, zq8, zq31, zq32, ite_T, ite_F, zq33, zq34, zq35, Nat.reduceEqDiff, len22, len24, fa26_0, fa26_1, fa26_2, len27, fa86_0, fa86_1, fa86_2, fa97_0, fa97_1, fa103_0, fa103_1, fa103_2, fa103_3, fa103_4, fa103_5, fa103_6, fa106_0, fa106_1]
    rw [zfb_ zvc_ zdc_ rfl hB2]
    refine zt_ u24 zgc_ (cells := [.int .i64 r.1, .slice Y r.2.length d]) (by decide) (by decide) (by simp [Instr.fill, madeCells, Value.cells, rng1, rng2]) rfl fun b5 w5 hb5 hb6 g5 _ r5 => ?_
    have H5 := H2.step g5
    obtain ⟨cells, hrow, hrc⟩ := H5.gow i hi
    have hY5 := H5.own j hj
    have hXY : ∀ q, blk Y = some q → blk X ≠ some q := fun q hq e => H5.two i j _ _ hij hi hj q (.inl e) hq
    refine zvg_ u24 zgc_ rfl (by decide) hrow (Row.src (r5 _ (Nat.le_refl _))) rfl (by intro v hv; simp at hv; rcases hv with rfl | rfl <;> rfl) (by omega) (by omega) (Nat.zero_le _) fun X' c' w' hr' hg hmv => ?_
    have hnew : ∀ q, q < w5.heap.size → blk X ≠ some q → blk X' ≠ some q := fun q hq hn e => by
      rcases hmv with h1 | h1
      · exact hn (h1 ▸ e)
      · have := h1 q e
        omega
    have hrc2 : RuleCells (fun q => (ft q ∨ blk Y = some q) ∧ blk X' ≠ some q) w' (rs ++ [r]) (cells ++ [.int .i64 r.1, .slice Y r.2.length d]) := by
      refine RuleCells.append ((hrc.lt.same fun q hq => hg.block q hq.2 fun e => hq.1.2 e.symm).mono fun q hq => ⟨.inl hq.1.1, hnew q hq.2 hq.1.2⟩) (.cons (Row.cap hY5).1 ?_ .nil)
      have hf : IntsF (fun q => blk Y = some q ∧ q < w5.heap.size) w5 Y r.2 := ⟨Own.ints hY5, fun hp => ⟨blk_ad hY5 hp, ((IntsF.of_own hY5).foot hp).2⟩⟩
      exact (hf.same' fun q hq => hg.block q hq.2 fun e => hXY q hq.1 e.symm).mono fun q hq => ⟨.inr hq.1, hnew q hq.2 (hXY q hq.1)⟩
    have hlen : rs.length + 1 = (rs ++ [r]).length := by simp
    rw [hlen] at hr' ⊢
    refine hk w' (fun q => ft q ∨ blk Y = some q) X' c' (rs ++ [r]) (.inr rfl) (H5.join (it := gth (fun q => ft q ∨ blk Y = some q) X' c' (rs ++ [r])) hij hi hj (gx_of hg fun q hq => .inl (.inl hq)) (fun q hq => ?_) (fun q hq => ?_) (zag_ ⟨_, hr', hrc2⟩))
    · rcases hq with hq | hq | hq
      · rcases hmv with e | e
        · exact .inl (.inl (e ▸ hq))
        · exact .inr (.inr (e q hq))
      · exact .inl (.inr hq)
      · exact .inr (.inl hq)
    · rcases hq with hq | hq | hq
      · exact (hr'.ge hq).2
      · exact Nat.lt_of_lt_of_le ((H5.ok i _ hi).hi q (.inr hq)) hg.size
      · exact Nat.lt_of_lt_of_le ((H5.ok j _ hj).hi q hq) hg.size
  simp only [show ((q : Int) < rs.length) from by omega, decide_true, zq18, zq19, zq20, zq21, zq22, zq23, zq24, zq25, zq26, zq27, zq28, zq4, zq3, zq1, zq2, zq0, zq29, zq30, zq14, zq15, zq16, zq17, zq13, zq10, zq12, zq11, zq7, zq5, zq6, zq9, zq8, zq31, zq32, ite_T, ite_F, zq33, zq34, zq35, Nat.reduceEqDiff, len22, len24, fa26_0, fa26_1, fa26_2, len27, fa86_0, fa86_1, fa86_2, fa97_0, fa97_1, fa103_0, fa103_1, fa103_2, fa103_3, fa103_4, fa103_5, fa103_6, fa106_0, fa106_1]
  obtain ⟨Z, cz, t1, t2, t3, t4⟩ := hR.row q hlt
  refine rdi (zxd_ hR.ptr hlt) ?_
  rw [ld_agg zvc_ zdc_ (cs := [.int .i64 (rul rs q).1, .slice Z (rul rs q).2.length cz]) rfl (fun j hj => by
    match j, hj with
    | 0, _ => rw [zkc_, Nat.add_zero]; exact g2.cell t1
    | 1, _ => rw [zkc_]; exact g2.cell t2)]
  have G := Apt.nil w2
  refine zfd_ G zgc_ fun b4 w4 G => ?_
  simp only [List.nil_append] at G
  refine zpb_ G 0 rfl zdc_ rfl rfl rfl fun w5 G => ?_
  simp only [List.set_cons_zero] at G
  rw [zfb_ zvc_ zdc_ rfl (hB2.gr G.gr), zfb_ zvc_ zdc_ rfl (G.box 0 rfl)]
  refine zhh_ (F := fun _ => True) (E := fun _ => True) (r := r) (q := rul rs q) ⟨Y, d, rfl, (Row.cap hY).1, ⟨(Own.ints hY).gr (ze_ g2 G.gr), fun _ => trivial⟩⟩ ⟨Z, cz, rfl, t3, (t4.gr (ze_ g2 G.gr)).mono fun _ _ => trivial⟩ fun w6 g6 => ?_
  have g26 := ze_ g2 (ze_ G.gr g6)
  by_cases he : r = rul rs q
  · rw [decide_eq_true he]
    simp only [zq18, zq19, zq20, zq21, zq22, zq23, zq24, zq25, zq26, zq27, zq28, zq4, zq3, zq1, zq2, zq0, zq29, zq30, zq14, zq15, zq16, zq17, zq13, zq10, zq12, zq11, zq7, zq5, zq6, zq9, zq8, zq31, zq32, ite_T, ite_F, zq33, zq34, zq35, Nat.reduceEqDiff, len22, len24, fa26_0, fa26_1, fa26_2, len27, fa86_0, fa86_1, fa86_2, fa97_0, fa97_1, fa103_0, fa103_1, fa103_2, fa103_3, fa103_4, fa103_5, fa103_6, fa106_0, fa106_1]
    have H6 := forget (H.step g26) j hj
    have := hk w6 ft X c rs (.inl ⟨rfl, by omega⟩)
    rw [set_same hi] at this
    exact this H6
  · rw [decide_eq_false he]
    simp only [zq18, zq19, zq20, zq21, zq22, zq23, zq24, zq25, zq26, zq27, zq28, zq4, zq3, zq1, zq2, zq0, zq29, zq30, zq14, zq15, zq16, zq17, zq13, zq10, zq12, zq11, zq7, zq5, zq6, zq9, zq8, zq31, zq32, ite_T, ite_F, zq33, zq34, zq35, Nat.reduceEqDiff, len22, len24, fa26_0, fa26_1, fa26_2, len27, fa86_0, fa86_1, fa86_2, fa97_0, fa97_1, fa103_0, fa103_1, fa103_2, fa103_3, fa103_4, fa103_5, fa103_6, fa106_0, fa106_1]
    rw [zp_ (by omega) (by omega)]
    exact hN _ _ hlt ⟨hlt, rfl, g26⟩
end
section
variable {w0 w : World} {E : List Thing} {bc N : Nat} {C : Option Addr} {cap : Nat} {bs : List Int} {k : Value → World → Prop}
set_option maxHeartbeats 6400000 in
theorem grammar_c (H : Apt w0 w (cur bc (.slice C bs.length cap) N :: E)) (hC : Byts w0 C bs) (hN : N ≤ 1000000) (hk : ∀ w' gm ft X c, Drawn 100 gm → Apt w0 w' (cur bc (.slice C bs.length cap) (N + 500) :: gth ft X c gm.rules :: E) → k (.agg #[.int .i64 gm.nons, .int .i64 gm.toks, .slice X gm.rules.length c]) w') :
    CallK Try.prog 116 [ptrv bc] k w := by
  refine enter116 ?_
  unfold S116
  refine zfd_ H inf26 fun b1 w1 H => ?_
  have H := H.insert 1
  simp only [List.take_succ_cons, List.take_zero, List.drop_succ_cons, List.drop_zero, List.nil_append, List.cons_append] at H
  refine one_c H 0 rfl hC (by omega) (by omega) fun w2 b H => ?_
  simp only [List.set_cons_zero] at H
  cases b
  case true =>
    simp only [zq18, zq19, zq20, zq21, zq22, zq23, zq24, zq25, zq26, zq27, zq28, zq4, zq3, zq1, zq2, zq0, zq29, zq30, zq14, zq15, zq16, zq17, zq13, zq10, zq12, zq11, zq7, zq5, zq6, zq9, zq8, zq31, zq32, ite_T, ite_F, zq33, zq34, zq35, Nat.reduceEqDiff, len22, len24, fa26_0, fa26_1, fa26_2, len27, fa86_0, fa86_1, fa86_2, fa97_0, fa97_1, fa103_0, fa103_1, fa103_2, fa103_3, fa103_4, fa103_5, fa103_6, fa106_0, fa106_1]
    refine known_c H hC (by omega) fun w3 gm ft X c hd H => ?_
    refine zpb_ H 2 rfl sz26 rfl rfl rfl fun w4 H => ?_
    simp only [List.set_cons_zero, List.set_cons_succ] at H
    rw [zfe_, zfb_ zyb_ sz26 rfl (H.box 2 rfl)]
    have H := H.erase 2
    simp only [List.eraseIdx_cons_zero, List.eraseIdx_cons_succ] at H
    exact hk w4 gm ft X c hd (zgf_ H (by omega))
  simp only [zq18, zq19, zq20, zq21, zq22, zq23, zq24, zq25, zq26, zq27, zq28, zq4, zq3, zq1, zq2, zq0, zq29, zq30, zq14, zq15, zq16, zq17, zq13, zq10, zq12, zq11, zq7, zq5, zq6, zq9, zq8, zq31, zq32, ite_T, ite_F, zq33, zq34, zq35, Nat.reduceEqDiff, len22, len24, fa26_0, fa26_1, fa26_2, len27, fa86_0, fa86_1, fa86_2, fa97_0, fa97_1, fa103_0, fa103_1, fa103_2, fa103_3, fa103_4, fa103_5, fa103_6, fa106_0, fa106_1]
  refine zic_ H 0 rfl hC (by omega) (by omega) fun w3 a _ ha H => ?_
  simp only [List.set_cons_zero, zq18, zq19, zq20, zq21, zq22, zq23, zq24, zq25, zq26, zq27, zq28, zq4, zq3, zq1, zq2, zq0, zq29, zq30, zq14, zq15, zq16, zq17, zq13, zq10, zq12, zq11, zq7, zq5, zq6, zq9, zq8, zq31, zq32, ite_T, ite_F, zq33, zq34, zq35, Nat.reduceEqDiff, len22, len24, fa26_0, fa26_1, fa26_2, len27, fa86_0, fa86_1, fa86_2, fa97_0, fa97_1, fa103_0, fa103_1, fa103_2, fa103_3, fa103_4, fa103_5, fa103_6, fa106_0, fa106_1] at H ⊢
  have ha := ha (by omega)
  refine zic_ H 0 rfl hC (by omega) (by omega) fun w4 t _ ht H => ?_
  simp only [List.set_cons_zero, zq18, zq19, zq20, zq21, zq22, zq23, zq24, zq25, zq26, zq27, zq28, zq4, zq3, zq1, zq2, zq0, zq29, zq30, zq14, zq15, zq16, zq17, zq13, zq10, zq12, zq11, zq7, zq5, zq6, zq9, zq8, zq31, zq32, ite_T, ite_F, zq33, zq34, zq35, Nat.reduceEqDiff, len22, len24, fa26_0, fa26_1, fa26_2, len27, fa86_0, fa86_1, fa86_2, fa97_0, fa97_1, fa103_0, fa103_1, fa103_2, fa103_3, fa103_4, fa103_5, fa103_6, fa106_0, fa106_1] at H ⊢
  have ht := ht (by omega)
  rw [zp_ (n := 1 + (a : Int)) (by omega) (by omega), zp_ (n := 1 + (t : Int)) (by omega) (by omega)]
  rw [bd26 (cells := #[.int .i64 (1 + (a : Int)), .int .i64 (1 + (t : Int)), .slice none 0 0]) rfl]
  refine zfd_ H inf26 fun b2 w5 H => ?_
  have H := H.insert 1
  simp only [List.take_succ_cons, List.take_zero, List.drop_succ_cons, List.drop_zero, List.nil_append, List.cons_append] at H
  refine zpb_ H 1 rfl sz26 rfl rfl rfl fun w6 H => ?_
  simp only [List.set_cons_zero, List.set_cons_succ] at H
  refine zic_ H 0 rfl hC (by omega) (by omega) fun w7 n0 _ hn0 H => ?_
  simp only [List.set_cons_zero, zq18, zq19, zq20, zq21, zq22, zq23, zq24, zq25, zq26, zq27, zq28, zq4, zq3, zq1, zq2, zq0, zq29, zq30, zq14, zq15, zq16, zq17, zq13, zq10, zq12, zq11, zq7, zq5, zq6, zq9, zq8, zq31, zq32, ite_T, ite_F, zq33, zq34, zq35, Nat.reduceEqDiff, len22, len24, fa26_0, fa26_1, fa26_2, len27, fa86_0, fa86_1, fa86_2, fa97_0, fa97_1, fa103_0, fa103_1, fa103_2, fa103_3, fa103_4, fa103_5, fa103_6, fa106_0, fa106_1] at H ⊢
  have hn0 := hn0 (by omega)
  rw [zp_ (n := 1 + (n0 : Int)) (by omega) (by omega)]
  have H := (nilGow (e := 106) H).insert 1
  simp only [List.take_succ_cons, List.take_zero, List.drop_succ_cons, List.drop_zero, List.nil_append, List.cons_append] at H
  refine zge_ (fun m f w' => m ≤ 1 + n0 ∧ f 4 = .int .i64 (m : Int) ∧ ∃ N' ft X c, ∃ rs : List RuleL, N' ≤ N + 20 + (1 + n0 - m) * 40 ∧ rs.length ≤ 1 + n0 - m ∧ (m < 1 + n0 → 0 < rs.length) ∧ (∀ r ∈ rs, r.2.length ≤ 1000) ∧ Apt w0 w' (cur bc (.slice C bs.length cap) N' :: gth ft X c rs :: bx b2 [.int .i64 (1 + (a : Int)), .int .i64 (1 + (t : Int)), .slice X rs.length c] 26 :: bx b1 [.int .i64 0, .int .i64 0, .slice none 0 0] 26 :: E)) (fun m => m) (1 + n0)
    ⟨Nat.le_refl _, rfl, _, _, none, 0, [], by omega, by simp, fun h => by omega, by simp, H⟩ ?_
  clear H
  rintro m f w8 NN hag ⟨hm, f4, N', ft, X, c, rs, hN', hrs, hpos, hrg, H⟩ hN2
  have f0 : f 0 = ptrv bc := hag 0 (by decide)
  have f2 : f 2 = ptrv b1 := hag 2 (by decide)
  have f3 : f 3 = ptrv b2 := hag 3 (by decide)
  simp only [f0, f3, f4, zq18, zq19, zq20, zq21, zq22, zq23, zq24, zq25, zq26, zq27, zq28, zq4, zq3, zq1, zq2, zq0, zq29, zq30, zq14, zq15, zq16, zq17, zq13, zq10, zq12, zq11, zq7, zq5, zq6, zq9, zq8, zq31, zq32, ite_T, ite_F, zq33, zq34, zq35, Nat.reduceEqDiff, len22, len24, fa26_0, fa26_1, fa26_2, len27, fa86_0, fa86_1, fa86_2, fa97_0, fa97_1, fa103_0, fa103_1, fa103_2, fa103_3, fa103_4, fa103_5, fa103_6, fa106_0, fa106_1]
  by_cases hm0 : 0 < m
  case neg =>
    simp only [show ¬ ((0 : Int) < (m : Int)) from by omega, decide_false, zq18, zq19, zq20, zq21, zq22, zq23, zq24, zq25, zq26, zq27, zq28, zq4, zq3, zq1, zq2, zq0, zq29, zq30, zq14, zq15, zq16, zq17, zq13, zq10, zq12, zq11, zq7, zq5, zq6, zq9, zq8, zq31, zq32, ite_T, ite_F, zq33, zq34, zq35, Nat.reduceEqDiff, len22, len24, fa26_0, fa26_1, fa26_2, len27, fa86_0, fa86_1, fa86_2, fa97_0, fa97_1, fa103_0, fa103_1, fa103_2, fa103_3, fa103_4, fa103_5, fa103_6, fa106_0, fa106_1]
    simp only [f2, f3, zq18, zq19, zq20, zq21, zq22, zq23, zq24, zq25, zq26, zq27, zq28, zq4, zq3, zq1, zq2, zq0, zq29, zq30, zq14, zq15, zq16, zq17, zq13, zq10, zq12, zq11, zq7, zq5, zq6, zq9, zq8, zq31, zq32, ite_T, ite_F, zq33, zq34, zq35, Nat.reduceEqDiff, len22, len24, fa26_0, fa26_1, fa26_2, len27, fa86_0, fa86_1, fa86_2, fa97_0, fa97_1, fa103_0, fa103_1, fa103_2, fa103_3, fa103_4, fa103_5, fa103_6, fa106_0, fa106_1]
    rw [zfb_ zyb_ sz26 rfl (H.box 2 rfl)]
    refine zpb_ H 3 rfl sz26 rfl rfl rfl fun w9 H => ?_
    simp only [List.set_cons_zero, List.set_cons_succ] at H
    rw [zfe_, zfb_ zyb_ sz26 rfl (H.box 3 rfl)]
    have H := (H.erase 3).erase 2
    simp only [List.eraseIdx_cons_zero, List.eraseIdx_cons_succ] at H
    exact hk w9 ⟨1 + (a : Int), 1 + (t : Int), rs⟩ ft X c ⟨⟨by show 0 ≤ 1 + (a : Int); omega, by show 1 + (a : Int) ≤ 1000; omega⟩, ⟨by show 0 ≤ 1 + (t : Int); omega, by show 1 + (t : Int) ≤ 1000; omega⟩, hpos (by omega), by show rs.length ≤ 100; omega, hrg⟩ (zgf_ H (by omega))
  simp only [show ((0 : Int) < (m : Int)) from by omega, decide_true, zq18, zq19, zq20, zq21, zq22, zq23, zq24, zq25, zq26, zq27, zq28, zq4, zq3, zq1, zq2, zq0, zq29, zq30, zq14, zq15, zq16, zq17, zq13, zq10, zq12, zq11, zq7, zq5, zq6, zq9, zq8, zq31, zq32, ite_T, ite_F, zq33, zq34, zq35, Nat.reduceEqDiff, len22, len24, fa26_0, fa26_1, fa26_2, len27, fa86_0, fa86_1, fa86_2, fa97_0, fa97_1, fa103_0, fa103_1, fa103_2, fa103_3, fa103_4, fa103_5, fa103_6, fa106_0, fa106_1]
  rw [ldB3 (H.box 2 rfl) rfl]
  refine zic_ H 0 rfl hC (by omega) (by omega) fun w9 l _ hl H => ?_
  simp only [List.set_cons_zero] at H
  rw [zub_ (cells := #[.int .i64 (l : Int), .slice none 0 0]) rfl]
  refine zfd_ H zgc_ fun b3 w10 H => ?_
  have H := H.insert 2
  simp only [List.take_succ_cons, List.take_zero, List.drop_succ_cons, List.drop_zero, List.nil_append, List.cons_append] at H
  refine zpb_ H 2 rfl zdc_ rfl rfl rfl fun w11 H => ?_
  simp only [List.set_cons_zero, List.set_cons_succ] at H
  refine zic_ H 0 rfl hC (by omega) (by omega) fun w12 kk _ hkk H => ?_
  simp only [List.set_cons_zero] at H
  have hkk := hkk (by omega)
  have H := (H.addOwn (Gr.refl _) (show Own 3 w12 w12.heap.size none 0 [] from Row.nil _ _ _ _)).insert 3
  simp only [List.take_succ_cons, List.take_zero, List.drop_succ_cons, List.drop_zero, List.nil_append, List.cons_append] at H
  refine zge_ (fun o f w' => o ≤ kk ∧ f 6 = .int .i64 (o : Int) ∧ f 4 = .int .i64 (m : Int) ∧ ∃ N2 Z d, ∃ xs : List Int, N2 ≤ N' + 4 + (kk - o) * 6 ∧ xs.length ≤ kk - o ∧ Apt w0 w' (cur bc (.slice C bs.length cap) N2 :: gth ft X c rs :: bx b3 [.int .i64 (l : Int), .slice Z xs.length d] 106 :: ows Z d xs :: bx b2 [.int .i64 (1 + (a : Int)), .int .i64 (1 + (t : Int)), .slice X rs.length c] 26 :: bx b1 [.int .i64 0, .int .i64 0, .slice none 0 0] 26 :: E)) (fun o => o) kk
    ⟨Nat.le_refl _, rfl, f4, _, none, 0, [], by omega, by simp, H⟩ ?_
  clear H
  rintro o g w13 N3 hag2 ⟨ho, g6, g4, N2, Z, d, xs, hN2', hxs, H⟩ hN4
  have g0 : g 0 = ptrv bc := (hag2 0 (by decide)).trans f0
  have g3 : g 3 = ptrv b2 := (hag2 3 (by decide)).trans f3
  have g5 : g 5 = ptrv b3 := hag2 5 (by decide)
  simp only [g0, g3, g6, zq18, zq19, zq20, zq21, zq22, zq23, zq24, zq25, zq26, zq27, zq28, zq4, zq3, zq1, zq2, zq0, zq29, zq30, zq14, zq15, zq16, zq17, zq13, zq10, zq12, zq11, zq7, zq5, zq6, zq9, zq8, zq31, zq32, ite_T, ite_F, zq33, zq34, zq35, Nat.reduceEqDiff, len22, len24, fa26_0, fa26_1, fa26_2, len27, fa86_0, fa86_1, fa86_2, fa97_0, fa97_1, fa103_0, fa103_1, fa103_2, fa103_3, fa103_4, fa103_5, fa103_6, fa106_0, fa106_1]
  by_cases ho0 : 0 < o
  case neg =>
    simp only [show ¬ ((0 : Int) < (o : Int)) from by omega, decide_false, zq18, zq19, zq20, zq21, zq22, zq23, zq24, zq25, zq26, zq27, zq28, zq4, zq3, zq1, zq2, zq0, zq29, zq30, zq14, zq15, zq16, zq17, zq13, zq10, zq12, zq11, zq7, zq5, zq6, zq9, zq8, zq31, zq32, ite_T, ite_F, zq33, zq34, zq35, Nat.reduceEqDiff, len22, len24, fa26_0, fa26_1, fa26_2, len27, fa86_0, fa86_1, fa86_2, fa97_0, fa97_1, fa103_0, fa103_1, fa103_2, fa103_3, fa103_4, fa103_5, fa103_6, fa106_0, fa106_1]
    simp only [g3, g4, g5, zq18, zq19, zq20, zq21, zq22, zq23, zq24, zq25, zq26, zq27, zq28, zq4, zq3, zq1, zq2, zq0, zq29, zq30, zq14, zq15, zq16, zq17, zq13, zq10, zq12, zq11, zq7, zq5, zq6, zq9, zq8, zq31, zq32, ite_T, ite_F, zq33, zq34, zq35, Nat.reduceEqDiff, len22, len24, fa26_0, fa26_1, fa26_2, len27, fa86_0, fa86_1, fa86_2, fa97_0, fa97_1, fa103_0, fa103_1, fa103_2, fa103_3, fa103_4, fa103_5, fa103_6, fa106_0, fa106_1]
    rw [ldB24 (H.box 4 rfl) rfl, zfb_ zvc_ zdc_ rfl (H.box 2 rfl)]
    refine put2_c (r := ((l : Int), xs)) H 1 3 (by decide) rfl rfl (by omega) fun w14 ft' X' c' rs' hrs' H => ?_
    simp only [List.set_cons_zero, List.set_cons_succ] at H
    refine zpb_ H 4 rfl sz24 rfl rfl rfl fun w15 H => ?_
    simp only [List.set_cons_zero, List.set_cons_succ] at H
    have H := (H.erase 3).erase 2
    simp only [List.eraseIdx_cons_zero, List.eraseIdx_cons_succ] at H
    rw [zp_ (by omega) (by omega), show (m : Int) - 1 = ((m - 1 : Nat) : Int) from by omega]
    have hl' : rs'.length ≤ rs.length + 1 ∧ 0 < rs'.length := by
      rcases hrs' with ⟨e, h0⟩ | e
      · rw [e]
        exact ⟨by omega, h0⟩
      · rw [e, List.length_append, List.length_singleton]
        omega
    have hrg' : ∀ r ∈ rs', r.2.length ≤ 1000 := by
      rcases hrs' with ⟨e, h0⟩ | e
      · rw [e]
        exact hrg
      · rw [e]
        intro r hr
        rcases List.mem_append.1 hr with hr | hr
        · exact hrg r hr
        · rw [List.mem_singleton.1 hr]
          show xs.length ≤ 1000
          omega
    exact hN2 (m - 1) _ _ ⟨by omega, rfl, N2, ft', X', c', rs', by omega, by omega, fun _ => hl'.2, hrg', H⟩ (by omega)
  simp only [show ((0 : Int) < (o : Int)) from by omega, decide_true, zq18, zq19, zq20, zq21, zq22, zq23, zq24, zq25, zq26, zq27, zq28, zq4, zq3, zq1, zq2, zq0, zq29, zq30, zq14, zq15, zq16, zq17, zq13, zq10, zq12, zq11, zq7, zq5, zq6, zq9, zq8, zq31, zq32, ite_T, ite_F, zq33, zq34, zq35, Nat.reduceEqDiff, len22, len24, fa26_0, fa26_1, fa26_2, len27, fa86_0, fa86_1, fa86_2, fa97_0, fa97_1, fa103_0, fa103_1, fa103_2, fa103_3, fa103_4, fa103_5, fa103_6, fa106_0, fa106_1]
  refine zed_ (fun g w' => g 6 = .int .i64 (o : Int) ∧ g 4 = .int .i64 (m : Int) ∧ ∃ N2 Z d, ∃ xs : List Int, N2 ≤ N' + 4 + (kk - o) * 6 + 6 ∧ xs.length ≤ kk - o + 1 ∧ Apt w0 w' (cur bc (.slice C bs.length cap) N2 :: gth ft X c rs :: bx b3 [.int .i64 (l : Int), .slice Z xs.length d] 106 :: ows Z d xs :: bx b2 [.int .i64 (1 + (a : Int)), .int .i64 (1 + (t : Int)), .slice X rs.length c] 26 :: bx b1 [.int .i64 0, .int .i64 0, .slice none 0 0] 26 :: E)) (fun K1 hK1 => ?_) ?_
  case refine_2 =>
    rintro g w' ⟨g6, g4, N2, Z, d, xs, h1, h2, H⟩
    simp only [g6, zq18, zq19, zq20, zq21, zq22, zq23, zq24, zq25, zq26, zq27, zq28, zq4, zq3, zq1, zq2, zq0, zq29, zq30, zq14, zq15, zq16, zq17, zq13, zq10, zq12, zq11, zq7, zq5, zq6, zq9, zq8, zq31, zq32, ite_T, ite_F, zq33, zq34, zq35, Nat.reduceEqDiff, len22, len24, fa26_0, fa26_1, fa26_2, len27, fa86_0, fa86_1, fa86_2, fa97_0, fa97_1, fa103_0, fa103_1, fa103_2, fa103_3, fa103_4, fa103_5, fa103_6, fa106_0, fa106_1]
    rw [zp_ (by omega) (by omega), show (o : Int) - 1 = ((o - 1 : Nat) : Int) from by omega]
    exact hN4 (o - 1) _ _ ⟨by omega, rfl, g4, N2, Z, d, xs, by omega, by omega, H⟩ (by omega)
  rw [ldB3 (H.box 4 rfl) rfl]
  refine zic_ H 0 rfl hC (by omega) (by omega) fun w14 x _ hx H => ?_
  simp only [List.set_cons_zero] at H
  refine zed_ (fun g w' => g 6 = .int .i64 (o : Int) ∧ g 4 = .int .i64 (m : Int) ∧ g 5 = ptrv b3 ∧ (∃ x : Int, g 7 = .int .i64 x) ∧ ∃ N2, N2 ≤ N' + 4 + (kk - o) * 6 + 6 ∧ Apt w0 w' (cur bc (.slice C bs.length cap) N2 :: gth ft X c rs :: bx b3 [.int .i64 (l : Int), .slice Z xs.length d] 106 :: ows Z d xs :: bx b2 [.int .i64 (1 + (a : Int)), .int .i64 (1 + (t : Int)), .slice X rs.length c] 26 :: bx b1 [.int .i64 0, .int .i64 0, .slice none 0 0] 26 :: E)) (fun K2 hK2 => ?_) ?_
  · refine one_c H 0 rfl hC (by omega) (by omega) fun w15 b H => ?_
    simp only [List.set_cons_zero] at H
    cases b
    · simp only [zq18, zq19, zq20, zq21, zq22, zq23, zq24, zq25, zq26, zq27, zq28, zq4, zq3, zq1, zq2, zq0, zq29, zq30, zq14, zq15, zq16, zq17, zq13, zq10, zq12, zq11, zq7, zq5, zq6, zq9, zq8, zq31, zq32, ite_T, ite_F, zq33, zq34, zq35, Nat.reduceEqDiff, len22, len24, fa26_0, fa26_1, fa26_2, len27, fa86_0, fa86_1, fa86_2, fa97_0, fa97_1, fa103_0, fa103_1, fa103_2, fa103_3, fa103_4, fa103_5, fa103_6, fa106_0, fa106_1]
      exact hK2 _ _ ⟨g6, g4, g5, ⟨_, rfl⟩, _, by omega, H⟩
    · simp only [zq18, zq19, zq20, zq21, zq22, zq23, zq24, zq25, zq26, zq27, zq28, zq4, zq3, zq1, zq2, zq0, zq29, zq30, zq14, zq15, zq16, zq17, zq13, zq10, zq12, zq11, zq7, zq5, zq6, zq9, zq8, zq31, zq32, ite_T, ite_F, zq33, zq34, zq35, Nat.reduceEqDiff, len22, len24, fa26_0, fa26_1, fa26_2, len27, fa86_0, fa86_1, fa86_2, fa97_0, fa97_1, fa103_0, fa103_1, fa103_2, fa103_3, fa103_4, fa103_5, fa103_6, fa106_0, fa106_1]
      rw [ldB3 (H.box 4 rfl) rfl]
      refine zic_ H 0 rfl hC (by omega) (by omega) fun w16 y _ hy H => ?_
      simp only [List.set_cons_zero, zq18, zq19, zq20, zq21, zq22, zq23, zq24, zq25, zq26, zq27, zq28, zq4, zq3, zq1, zq2, zq0, zq29, zq30, zq14, zq15, zq16, zq17, zq13, zq10, zq12, zq11, zq7, zq5, zq6, zq9, zq8, zq31, zq32, ite_T, ite_F, zq33, zq34, zq35, Nat.reduceEqDiff, len22, len24, fa26_0, fa26_1, fa26_2, len27, fa86_0, fa86_1, fa86_2, fa97_0, fa97_1, fa103_0, fa103_1, fa103_2, fa103_3, fa103_4, fa103_5, fa103_6, fa106_0, fa106_1] at H ⊢
      exact hK2 _ _ ⟨g6, g4, g5, ⟨_, rfl⟩, _, by omega, H⟩
  · clear H
    rintro g w15 ⟨g6, g4, g5, ⟨y, g7⟩, N5, hN5, H⟩
    simp only [g5, g7, zq18, zq19, zq20, zq21, zq22, zq23, zq24, zq25, zq26, zq27, zq28, zq4, zq3, zq1, zq2, zq0, zq29, zq30, zq14, zq15, zq16, zq17, zq13, zq10, zq12, zq11, zq7, zq5, zq6, zq9, zq8, zq31, zq32, ite_T, ite_F, zq33, zq34, zq35, Nat.reduceEqDiff, len22, len24, fa26_0, fa26_1, fa26_2, len27, fa86_0, fa86_1, fa86_2, fa97_0, fa97_1, fa103_0, fa103_1, fa103_2, fa103_3, fa103_4, fa103_5, fa103_6, fa106_0, fa106_1]
    rw [zjd_ (H.box 2 rfl) rfl]
    refine pushH H 3 rfl rfl (by omega) fun t1 Z2 d2 w16 H => ?_
    simp only [List.set_cons_zero, List.set_cons_succ, zq18, zq19, zq20, zq21, zq22, zq23, zq24, zq25, zq26, zq27, zq28, zq4, zq3, zq1, zq2, zq0, zq29, zq30, zq14, zq15, zq16, zq17, zq13, zq10, zq12, zq11, zq7, zq5, zq6, zq9, zq8, zq31, zq32, ite_T, ite_F, zq33, zq34, zq35, Nat.reduceEqDiff, len22, len24, fa26_0, fa26_1, fa26_2, len27, fa86_0, fa86_1, fa86_2, fa97_0, fa97_1, fa103_0, fa103_1, fa103_2, fa103_3, fa103_4, fa103_5, fa103_6, fa106_0, fa106_1] at H ⊢
    refine zpb_ H 2 rfl sz27 rfl rfl rfl fun w17 H => ?_
    simp only [List.set_cons_zero, List.set_cons_succ, List.take_succ_cons, List.take_zero, List.drop_succ_cons, List.drop_zero, List.nil_append, List.cons_append, List.drop_nil, Value.cells] at H
    exact hK1 _ _ ⟨g6, g4, N5, Z2, d2, xs ++ [y], hN5, by rw [List.length_append, List.length_singleton]; omega, H⟩
end
end Go.Proofs.Yteabbgaffgpegaa

namespace Go.Sh
open Go
def vls (ls : List (List Value)) (j : Nat) : List Value := ls.getD j []
theorem vls_set {ls : List (List Value)} {i j : Nat} {l : List Value} (hi : i < ls.length) : vls (ls.set i l) j = if j = i then l else vls ls j := by
  simp only [vls, List.getD_eq_getElem?_getD, List.getElem?_set]
  by_cases hij : i = j
  · subst hij
    simp [hi]
  · rw [if_neg hij, if_neg (fun e => hij e.symm)]
structure OwnV (e1 e2 : Nat) (w : World) (B : Nat) (X : Option Addr) (c : Nat) (ls : List (List Value)) (ps : Nat → Option Addr × Nat) : Prop where
  row : ∃ cells, Row w B e1 1 X ls.length c cells ∧ ∀ j, j < ls.length → cells[j]? = some (.slice (ps j).1 (vls ls j).length (ps j).2)
  own : ∀ j, j < ls.length → Row w B e2 1 (ps j).1 (vls ls j).length (ps j).2 (vls ls j)
  two : ∀ i j, i < ls.length → j < ls.length → i ≠ j → blk (ps i).1 = none ∨ blk (ps i).1 ≠ blk (ps j).1
section
variable {e1 e2 : Nat} {w w' : World} {B B' : Nat} {X : Option Addr} {c : Nat} {ls : List (List Value)} {ps : Nat → Option Addr × Nat}
theorem OwnV.same (h : OwnV e1 e2 w B X c ls ps) (hs : ∀ q, Foot X ps ls.length q → w'.heap[q]? = w.heap[q]?) : OwnV e1 e2 w' B X c ls ps := by
  obtain ⟨⟨cells, hr, hc⟩, ho, ht⟩ := h
  exact ⟨⟨cells, hr.same fun q hq => hs q (.inl hq), hc⟩, fun j hj => Row.same (ho j hj) fun q hq => hs q (.inr ⟨j, hj, hq⟩), ht⟩
theorem OwnV.up (h : OwnV e1 e2 w B X c ls ps) (hs : ∀ q, Foot X ps ls.length q → B' ≤ q) : OwnV e1 e2 w B' X c ls ps := by
  obtain ⟨⟨cells, hr, hc⟩, ho, ht⟩ := h
  exact ⟨⟨cells, hr.up fun q hq => hs q (.inl hq), hc⟩, fun j hj => Row.up (ho j hj) fun q hq => hs q (.inr ⟨j, hj, hq⟩), ht⟩
theorem OwnV.mono (h : OwnV e1 e2 w B X c ls ps) (hb : B' ≤ B) : OwnV e1 e2 w B' X c ls ps := by
  obtain ⟨⟨cells, hr, hc⟩, ho, ht⟩ := h
  exact ⟨⟨cells, Row.mono hr hb, hc⟩, fun j hj => Row.mono (ho j hj) hb, ht⟩
theorem OwnV.foot (h : OwnV e1 e2 w B X c ls ps) {q : Nat} (hq : Foot X ps ls.length q) : B ≤ q ∧ q < w.heap.size := by
  obtain ⟨⟨cells, hr, hc⟩, ho, ht⟩ := h
  rcases hq with hq | ⟨l, hl, hq⟩
  · exact hr.ge hq
  · exact Row.ge (ho l hl) hq
theorem OwnV.ptr (h : OwnV e1 e2 w B X c ls ps) (hl : 0 < ls.length) : X = some (ad X) := by
  obtain ⟨⟨cells, hr, hc⟩, _⟩ := h
  exact hr.ptr hl
theorem OwnV.cell (h : OwnV e1 e2 w B X c ls ps) {j : Nat} (hj : j < ls.length) : w.cell? ((ad X).add j) = some (.slice (ps j).1 (vls ls j).length (ps j).2) := by
  obtain ⟨⟨cells, hr, hc⟩, _⟩ := h
  exact hr.src.cell _ _ (hc j hj)
theorem OwnV.put {i m : Nat} {v : Value} (h : OwnV e1 e2 w B X c ls ps) (he : e1 ≠ e2) (hi : i < ls.length) (hr : Row w' B e2 1 (ps i).1 (vls ls i).length (ps i).2 ((vls ls i).set m v)) (g : w.grownBy w' (blk (ps i).1)) : OwnV e1 e2 w' B X c (ls.set i ((vls ls i).set m v)) ps := by
  obtain ⟨⟨cells, hr0, hc⟩, ho, ht⟩ := h
  refine ⟨⟨cells, by rw [List.length_set]; exact Row.kept hr0 g (zif_ hr0 (ho i hi) he), fun j hj => ?_⟩, fun j hj => ?_, fun a b ha hb hab => ?_⟩
  · rw [List.length_set] at hj
    rw [hc j hj, vls_set hi]
    by_cases hij : j = i
    · subst hij
      rw [if_pos rfl, List.length_set]
    · rw [if_neg hij]
  · rw [List.length_set] at hj
    rw [vls_set hi]
    by_cases hij : j = i
    · subst hij
      rw [if_pos rfl, List.length_set]
      exact hr
    · rw [if_neg hij]
      exact Row.kept (ho j hj) g (ht j i hj hi hij)
  · rw [List.length_set] at ha hb
    exact ht a b ha hb hab
end
section
variable {P : Program} {k : Value → World → Prop} {w0 w : World} {L : List Thing}
end
end Go.Sh

namespace Go.Sh
abbrev Tab := Nat → Nat → Nat → Bool
def Tab.put (T : Tab) (x i j : Nat) : Tab := fun a b c => if a = x ∧ b = i ∧ c = j then true else T a b c
def symT (T : Tab) (w : List Int) (x : Int) (i j : Nat) : Bool := if x < 0 then decide (j = i + 1) && decide (w.getD i 0 = -1 - x) else T x.toNat i j
def zdd_ (T : Tab) (w : List Int) : List Int → Nat → Nat → Bool
  | [], i, j => decide (i = j)
  | x :: xs, i, j => (List.range' i (j + 1 - i)).any fun m => symT T w x i m && zdd_ T w xs m j
theorem zmi_ {T : Tab} {w : List Int} {x : Int} {xs : List Int} {i j : Nat} (hx : x < 0) : zdd_ T w (x :: xs) i j = (decide (i < j) && (decide (w.getD i 0 = -1 - x) && zdd_ T w xs (i + 1) j)) := by
  rw [Bool.eq_iff_iff]
  simp only [zdd_, symT, hx, if_true, List.any_eq_true, List.mem_range'_1, Bool.and_eq_true, decide_eq_true_eq]
  constructor
  · rintro ⟨m, ⟨h1, h2⟩, ⟨rfl, h4⟩, h5⟩
    exact ⟨by omega, h4, h5⟩
  · rintro ⟨h1, h2, h3⟩
    exact ⟨i + 1, ⟨by omega, by omega⟩, ⟨rfl, h2⟩, h3⟩
theorem zpi_ {T : Tab} {w : List Int} {x : Int} {xs : List Int} {i j : Nat} (hx : ¬ x < 0) : zdd_ T w (x :: xs) i j = (List.range' i (j + 1 - i)).any fun m => T x.toNat i m && zdd_ T w xs m j := by
  simp only [zdd_, symT, hx, if_false]
theorem any_upto {p : Nat → Bool} {i j : Nat} (h : ∀ m, i ≤ m → m ≤ j → p m = false) : (List.range' i (j + 1 - i)).any p = false := by
  rw [List.any_eq_false]
  intro m hm
  rw [List.mem_range'_1] at hm
  rw [h m hm.1 (by omega)]
  decide
theorem any_at {p : Nat → Bool} {i j m : Nat} (h1 : i ≤ m) (h2 : m ≤ j) (h : p m = true) : (List.range' i (j + 1 - i)).any p = true := by
  rw [List.any_eq_true]
  exact ⟨m, List.mem_range'_1.2 ⟨h1, by omega⟩, h⟩

abbrev TS := Tab × Bool
def stepT (w : List Int) (r : Int × List Int) (i : Nat) (s : TS) (j : Nat) : TS := if !s.1 r.1.toNat i j && zdd_ s.1 w r.2 i j then (s.1.put r.1.toNat i j, true) else s
def rowT (w : List Int) (r : Int × List Int) (s : TS) (i : Nat) : TS := (List.range' i (w.length + 1 - i)).foldl (stepT w r i) s
def ruleT (w : List Int) (s : TS) (r : Int × List Int) : TS := (List.range (w.length + 1)).foldl (rowT w r) s
def passT (rs : List (Int × List Int)) (w : List Int) (s : TS) : TS := rs.foldl (ruleT w) s
def cellT (T : Tab) (p : Nat) : Bool := T (p / 121) (p / 11 % 11) (p % 11)
def openT (T : Tab) : Nat := (List.range 726).countP fun p => !cellT T p
theorem count_le {α : Type} {p q : α → Bool} {l : List α} (h : ∀ a ∈ l, p a = true → q a = true) : l.countP p ≤ l.countP q := List.countP_mono_left h
theorem count_lt {α : Type} {p q : α → Bool} {l : List α} (h : ∀ a ∈ l, p a = true → q a = true) {b : α} (hb : b ∈ l) (hq : q b = true) (hp : p b = false) : l.countP p < l.countP q := by
  induction l with
  | nil => cases hb
  | cons a l ih =>
    have ht : ∀ a ∈ l, p a = true → q a = true := fun x hx => h x (List.mem_cons_of_mem _ hx)
    rw [List.countP_cons, List.countP_cons]
    rcases List.mem_cons.1 hb with rfl | hb
    · have := count_le ht
      rw [hp, hq]
      simp
      omega
    · have := ih ht hb
      have ha := h a (List.mem_cons_self ..)
      by_cases hpa : p a = true
      · rw [if_pos hpa, if_pos (ha hpa)]
        omega
      · rw [if_neg hpa]
        split <;> omega
theorem open_put {T : Tab} {x i j : Nat} (hx : x < 6) (hi : i < 11) (hj : j < 11) (h : T x i j = false) : openT (T.put x i j) < openT T := by
  unfold openT
  refine count_lt (b := x * 121 + i * 11 + j) (fun p hp hh => ?_) (List.mem_range.2 (by omega)) ?_ ?_
  · simp only [cellT, Tab.put, Bool.not_eq_true'] at hh ⊢
    split at hh
    · cases hh
    · exact hh
  · have e1 : (x * 121 + i * 11 + j) / 121 = x := by omega
    have e2 : (x * 121 + i * 11 + j) / 11 % 11 = i := by omega
    have e3 : (x * 121 + i * 11 + j) % 11 = j := by omega
    simp [cellT, e1, e2, e3, h]
  · have e1 : (x * 121 + i * 11 + j) / 121 = x := by omega
    have e2 : (x * 121 + i * 11 + j) / 11 % 11 = i := by omega
    have e3 : (x * 121 + i * 11 + j) % 11 = j := by omega
    simp [cellT, Tab.put, e1, e2, e3]
def Inc (s s' : TS) : Prop := s' = s ∨ (s'.2 = true ∧ openT s'.1 < openT s.1)
theorem Inc.refl (s : TS) : Inc s s := .inl rfl
theorem Inc.trans {a b c : TS} (h : Inc a b) (g : Inc b c) : Inc a c := by
  rcases h with rfl | ⟨h1, h2⟩
  · exact g
  · rcases g with rfl | ⟨g1, g2⟩
    · exact .inr ⟨h1, h2⟩
    · exact .inr ⟨g1, by omega⟩
theorem Inc.fold {α : Type} {f : TS → α → TS} {l : List α} (h : ∀ a ∈ l, ∀ s, Inc s (f s a)) : ∀ s, Inc s (l.foldl f s) := by
  induction l with
  | nil => exact fun s => Inc.refl s
  | cons a l ih =>
    intro s
    exact (h a (List.mem_cons_self ..) s).trans (ih (fun b hb => h b (List.mem_cons_of_mem _ hb)) _)
theorem zwk_ {w : List Int} {r : Int × List Int} {i j : Nat} {s : TS} (hr : r.1.toNat < 6) (hi : i < 11) (hj : j < 11) : Inc s (stepT w r i s j) := by
  unfold stepT
  split
  · rename_i h
    simp only [Bool.and_eq_true, Bool.not_eq_true'] at h
    exact .inr ⟨rfl, open_put hr hi hj h.1⟩
  · exact .inl rfl
theorem rowT_inc {w : List Int} {r : Int × List Int} {i : Nat} (hr : r.1.toNat < 6) (hw : w.length ≤ 10) (hi : i < 11) (s : TS) : Inc s (rowT w r s i) :=
  Inc.fold (fun j hj s => by
    rw [List.mem_range'_1] at hj
    exact zwk_ hr hi (by omega)) s
theorem zxk_ {w : List Int} {r : Int × List Int} (hr : r.1.toNat < 6) (hw : w.length ≤ 10) (s : TS) : Inc s (ruleT w s r) :=
  Inc.fold (fun i hi s => rowT_inc hr hw (by have := List.mem_range.1 hi; omega) s) s
theorem zgg_ {rs : List (Int × List Int)} {w : List Int} (hr : ∀ r ∈ rs, r.1.toNat < 6) (hw : w.length ≤ 10) (s : TS) : Inc s (passT rs w s) :=
  Inc.fold (fun r h s => zxk_ (hr r h) hw s) s
inductive Span (rs : List (Int × List Int)) (w : List Int) : Tab → Tab → Prop
  | done {T : Tab} : (passT rs w (T, false)).2 = false → Span rs w T (passT rs w (T, false)).1
  | more {T U : Tab} : (passT rs w (T, false)).2 = true → Span rs w (passT rs w (T, false)).1 U → Span rs w T U
theorem Span.det {rs : List (Int × List Int)} {w : List Int} {T U V : Tab} (h : Span rs w T U) (g : Span rs w T V) : U = V := by
  induction h with
  | done h1 =>
    cases g with
    | done g1 => rfl
    | more g1 g2 => rw [h1] at g1; cases g1
  | more h1 h2 ih =>
    cases g with
    | done g1 => rw [h1] at g1; cases g1
    | more g1 g2 => exact ih g2
theorem Span.ex {rs : List (Int × List Int)} {w : List Int} (hr : ∀ r ∈ rs, r.1.toNat < 6) (hw : w.length ≤ 10) : ∀ (n : Nat) (T : Tab), openT T ≤ n → ∃ U, Span rs w T U := by
  intro n
  induction n with
  | zero =>
    intro T hT
    rcases zgg_ hr hw (T, false) with h | ⟨_, h⟩
    · exact ⟨_, .done (by rw [h])⟩
    · exact absurd h (by simp at hT ⊢; omega)
  | succ n ih =>
    intro T hT
    rcases zgg_ hr hw (T, false) with h | ⟨h1, h2⟩
    · exact ⟨_, .done (by rw [h])⟩
    · obtain ⟨U, hU⟩ := ih (passT rs w (T, false)).1 (by simp at h2; omega)
      exact ⟨U, .more h1 hU⟩
def noTab : Tab := fun _ _ _ => false
open Classical in
noncomputable def spanT (rs : List (Int × List Int)) (w : List Int) : Tab := if h : ∃ U, Span rs w noTab U then Classical.choose h else noTab
theorem Span.eq {rs : List (Int × List Int)} {w : List Int} {U : Tab} (h : Span rs w noTab U) : U = spanT rs w := by
  have hx : ∃ U, Span rs w noTab U := ⟨U, h⟩
  unfold spanT
  rw [dif_pos hx]
  exact h.det (Classical.choose_spec hx)
noncomputable def inL (rs : List (Int × List Int)) (w : List Int) : Bool := spanT rs w 0 0 w.length
end Go.Sh

namespace Go.Proofs.Yteabbgaffgpegaa
open Go Go.Sh

def pl63 : Plans := fun i => match i with
  | 5 => ⟨false, [], .step 0 .any (.step 1 .held (.step 2 .any (.step 3 .any (.step 4 .any (.step 5 .any (.nil))))))⟩
  | _ => ⟨false, [], .nil⟩
def S63 (v0 v1 v2 : Value) (k : Value → World → Prop) (w : World) : Prop :=
 Do Try.prog (sBox 26 v0) (fun t1 w2 =>
 Do Try.prog (sBox 27 v2) (fun t3 w4 =>
 Do Try.prog (zh_ 27 0 []) (fun t5 w6 =>
 Do Try.prog (zkb_ 27) (fun t7 w8 =>
 Do Try.prog (zab_ 27 t7 t5) (fun _ w9 =>
 Do Try.prog (zkb_ 150) (fun t10 w11 =>
 Rd Try.prog (WS.at w11) (zyd_ (.func 118) [] [t3, t1, t7, t10]) fun t12 =>
 Do Try.prog (zab_ 150 t10 t12) (fun _ w13 =>
 Rd Try.prog (WS.at w13) (zd_ 150 t10) fun t14 =>
 Do Try.prog (zbd_ t14 [v1, (.int .i64 0)] 151) (fun t15 w16 =>
 Rd Try.prog (WS.at w16) (zu_ t15 0) fun t17 =>
 Rd Try.prog (WS.at w16) (zu_ t15 1) fun t18 =>
 Rd Try.prog (WS.at w16.drew) (zd_ 27 t7) fun t19 =>
 k (.tuple #[t17, t19, t18]) w16.drew) w13) w11) w9) w8) w6) w4) w2) w
theorem body63 : Try.f63.body = some (zi_ Try.f63) := by kernel_rfl
theorem same63 (v0 v1 v2 : Value) (k : Value → World → Prop) (w : World) : wpF Try.prog pl63 (zi_ Try.f63) (zv_ Try.prog Try.f63.results.toList k) (zr_ [v0, v1, v2]) w = S63 v0 v1 v2 k w := by kernel_rfl
theorem enter63 {v0 v1 v2 : Value} {k : Value → World → Prop} {w : World} (h : S63 v0 v1 v2 k w) : CallK Try.prog 63 [v0, v1, v2] k w :=
  zk_ (pl := pl63) zdb_ Try.func63 body63 (by kernel_rfl) (of_decide_eq_true (by kernel_rfl)) (by kernel_rfl) (by kernel_rfl) (Eq.mpr (same63 v0 v1 v2 k w) h)

def pl118 : Plans := fun i => match i with
  | 1 => ⟨true, [], .step 0 .any (.step 1 .held (.step 2 .any (.step 3 .any (.step 4 .any (.step 5 .held (.step 6 .any (.step 7 .any (.step 8 .held (.step 9 .any (.step 10 .held (.step 11 .any (.step 12 .any (.step 13 .one (.step 14 .any (.step 15 .any (.step 16 .any (.step 17 .any (.step 18 .held (.step 19 .held (.step 20 .any (.step 21 .any (.step 22 .held (.step 23 .any (.step 24 .any (.step 25 .held (.step 26 .any (.step 27 .any (.step 28 .any (.nil)))))))))))))))))))))))))))))⟩
  | 3 => ⟨false, [11], .step 0 .any (.step 1 .held (.step 2 .any (.step 3 .any (.step 4 .held (.step 5 .any (.step 6 .any (.step 7 .any (.step 8 .held (.step 9 .any (.step 10 .any (.step 11 .last (.step 12 .any (.nil)))))))))))))⟩
  | 4 => ⟨false, [], .step 0 .any (.step 1 .held (.step 2 .any (.step 3 .any (.step 4 .any (.step 5 .held (.step 6 .any (.step 7 .any (.step 8 .held (.step 9 .any (.step 10 .any (.nil)))))))))))⟩
  | 8 => ⟨true, [4, 5], .step 0 .held (.step 1 .any (.step 2 .one (.step 3 .one (.step 4 .last (.step 5 .last (.nil))))))⟩
  | 9 => ⟨false, [6], .step 0 .held (.step 1 .any (.step 2 .any (.step 3 .any (.step 4 .any (.step 5 .held (.step 6 .last (.step 7 .any (.step 8 .any (.step 9 .any (.step 10 .any (.step 11 .any (.nil))))))))))))⟩
  | _ => ⟨false, [], .nil⟩
def S118 (v0 v1 v2 v3 v4 v5 : Value) (k : Value → World → Prop) (w : World) : Prop :=
 ∃ U1 : World → Prop, ∃ h2 : U1 w.drew,
 Rd Try.prog ⟨U1, w.drew, h2⟩ (zd_ 27 v2) fun t3 =>
 Rd Try.prog WS.any (zc_ .len #[27] 3 [false] [t3]) fun t4 =>
 Rd Try.prog WS.any (sBin .geq 3 false v1 t4) fun t5 =>
 zb_ t5 false (fun k w' => Rd Try.prog ⟨U1, w.drew, h2⟩ (zd_ 27 v2) fun v => k v w') (fun t6 w7 =>
 zb_ t5 false (fun k w' => k v1 w') (fun t8 w9 =>
 zb_ t5 false (fun k w' => Rd Try.prog WS.any (zf_ 27 t6 t8) fun v => k v w') (fun t10 w11 =>
 zb_ t5 false (fun k w' => Rd Try.prog ⟨U1, w.drew, h2⟩ (zd_ 3 t10) fun v => k v w') (fun t12 w13 =>
 zb_ t5 false (fun k w' => Rd Try.prog WS.any (za_ 26 v3 2) fun v => k v w') (fun t14 w15 =>
 zb_ t5 false (fun k w' => Rd Try.prog ⟨U1, w.drew, h2⟩ (zd_ 24 t14) fun v => k v w') (fun t16 w17 =>
 zb_ t5 false (fun k w' => Rd Try.prog WS.any (zc_ .len #[24] 3 [false] [t16]) fun v => k v w') (fun t18 w19 =>
 zb_ t5 false (fun k w' => Rd Try.prog WS.any (sBin .sub 3 true t18 (.int .i64 1)) fun v => k v w') (fun t20 w21 =>
 zb_ t5 false (fun k w' => CallK Try.prog 65 [t12, (.int .i64 0), t20] k w') (fun t22 w23 =>
 U1 w23 ∧ zb_ t5 false (fun k w' => Rd Try.prog WS.any (sUn .not t22) fun v => k v w') (fun t24 w25 =>
 Rd Try.prog WS.any (zcb_ t5 (.bool true) t24) fun t26 =>
 zb_ t26 false (fun k w' => Rd Try.prog WS.any (za_ 26 v3 2) fun v => k v w') (fun t27 w28 =>
 zb_ t26 false (fun k w' => Rd Try.prog ⟨U1, w.drew, h2⟩ (zd_ 24 t27) fun v => k v w') (fun t29 w30 =>
 zb_ t26 false (fun k w' => Rd Try.prog ⟨U1, w.drew, h2⟩ (zd_ 27 v2) fun v => k v w') (fun t31 w32 =>
 zb_ t26 false (fun k w' => k v1 w') (fun t33 w34 =>
 zb_ t26 false (fun k w' => Rd Try.prog WS.any (zf_ 27 t31 t33) fun v => k v w') (fun t35 w36 =>
 zb_ t26 false (fun k w' => Rd Try.prog ⟨U1, w.drew, h2⟩ (zd_ 3 t35) fun v => k v w') (fun t37 w38 =>
 zb_ t26 false (fun k w' => Rd Try.prog WS.any (zf_ 24 t29 t37) fun v => k v w') (fun t39 w40 =>
 zb_ t26 false (fun k w' => Rd Try.prog WS.any (za_ 106 t39 0) fun v => k v w') (fun t41 w42 =>
 zb_ t26 false (fun k w' => Rd Try.prog ⟨U1, w.drew, h2⟩ (zd_ 3 t41) fun v => k v w') (fun t43 w44 =>
 zb_ t26 false (fun k w' => k v0 w') (fun t45 w46 =>
 zb_ t26 false (fun k w' => Rd Try.prog WS.any (sBin .neq 3 false t43 t45) fun v => k v w') (fun t47 w48 =>
 Rd Try.prog WS.any (zcb_ t26 (.bool true) t47) fun t49 =>
 zm_ t49
  (k (.tuple #[(.pointer none), (.bool false)]) w48)
  (Rd Try.prog (WS.at w48.drew) (zd_ 27 v2) fun t50 =>
  Rd Try.prog WS.any (zf_ 27 t50 v1) fun t51 =>
  Rd Try.prog (WS.at w48.drew) (zd_ 3 t51) fun t52 =>
  Rd Try.prog WS.any (sBin .add 3 true v1 (.int .i64 1)) fun t53 =>
  Rd Try.prog (WS.at w48.drew) (zd_ 27 v4) fun t54 =>
  Rd Try.prog WS.any (zc_ .len #[27] 3 [false] [t54]) fun t55 =>
  Rd Try.prog WS.any (zw_ 103 [(0, v0), (1, t52), (2, v1), (3, t53), (4, t55)]) fun t56 =>
  Do Try.prog (sBox 103 t56) (fun t57 w58 =>
  Rd Try.prog WS.any (za_ 26 v3 2) fun t59 =>
  Rd Try.prog (WS.at w58.drew) (zd_ 24 t59) fun t60 =>
  Rd Try.prog WS.any (zeb_ t57) fun t61 =>
  Rd Try.prog WS.any (za_ 103 t61 1) fun t62 =>
  Rd Try.prog (WS.at w58.drew) (zd_ 3 t62) fun t63 =>
  Rd Try.prog WS.any (zf_ 24 t60 t63) fun t64 =>
  Rd Try.prog WS.any (za_ 106 t64 1) fun t65 =>
  Rd Try.prog (WS.at w58.drew) (zd_ 27 t65) fun t66 =>
  Rd Try.prog WS.any (zc_ .len #[27] 3 [false] [t66]) fun t67 =>
  zrb_ [67, 68, 69, 12, 70, 71, 72, 73, 74, 75, 76, 78, 79, 80, 81, 82, 83, 84, 77, 85, 86, 13, 14, 87, 88, 8, 9, 89, 90, 91, 92, 93, 94, 95, 96, 97, 98, 99, 100, 101, 102, 103, 104, 105, 106, 66] (fun Q68 f69 w70 =>
   Rd Try.prog (WS.at w70) (sBin .lss 3 false (f69 66) (f69 65)) fun t71 =>
   zm_ t71
    (Join (fun K72 =>
    Rd Try.prog (WS.at w70) (zf_ 27 (f69 64) (f69 66)) fun t75 =>
    Rd Try.prog (WS.at w70) (zd_ 3 t75) fun t76 =>
    Rd Try.prog (WS.at w70) (sBin .lss 3 true t76 (.int .i64 0)) fun t77 =>
    zm_ t77
     (∃ U78 : World → Prop, ∃ h79 : U78 w70.drew,
     Rd Try.prog ⟨U78, w70.drew, h79⟩ (zd_ 27 (f69 4)) fun t80 =>
     CallK Try.prog 107 [t76] (fun t81 w82 =>
     U78 w82 ∧ Do Try.prog (zh_ 27 1 [(0, t81)]) (fun t83 w84 =>
     U78 w84 ∧ Do Try.prog (zc_ .append #[27, 27] 27 [false, false] [t80, t83]) (fun t85 w86 =>
     Do Try.prog (zab_ 27 (f69 4) t85) (fun _ w87 =>
     K72 (F.upd (F.upd (F.upd (F.upd (F.upd (F.upd (F.upd (F.upd (F.upd (F.upd (F.upd f69 67 t71) 68 t75) 69 t76) 12 t76) 70 t76) 71 t77) 72 t80) 73 t76) 74 t81) 75 t83) 76 t85) w87) w86) w84) w82) w70.drew)
     (Rd Try.prog (WS.at w70.drew) (zd_ 150 (f69 5)) fun t88 =>
     Rd Try.prog WS.any (zeb_ (f69 10)) fun t89 =>
     Rd Try.prog WS.any (za_ 103 t89 3) fun t90 =>
     Rd Try.prog (WS.at w70.drew) (zd_ 3 t90) fun t91 =>
     Do Try.prog (zbd_ t88 [t76, t91] 151) (fun t92 w93 =>
     Rd Try.prog WS.any (zu_ t92 0) fun t94 =>
     Rd Try.prog WS.any (zu_ t92 1) fun t95 =>
     Rd Try.prog (WS.at w93) (sUn .not t95) fun t96 =>
     zm_ t96
      (Q68 .ret (F.upd (F.upd (F.upd (F.upd (F.upd (F.upd (F.upd (F.upd (F.upd (F.upd (F.upd (F.upd (F.upd (F.upd (F.upd (F.upd (F.upd (F.upd (F.upd (F.upd (F.upd (F.upd f69 67 t71) 68 t75) 69 t76) 12 t76) 70 t76) 71 t77) 78 t88) 79 t76) 80 (f69 10)) 81 t89) 82 t90) 83 t91) 84 t92) 77 t92) 85 t94) 86 t95) 13 t94) 14 t95) 87 t95) 88 t96) 8 (.pointer none)) 9 (.bool false)) w93)
      (Rd Try.prog (WS.at w93) (zeb_ (f69 10)) fun t97 =>
      Rd Try.prog (WS.at w93) (za_ 103 t97 6) fun t98 =>
      Rd Try.prog (WS.at w93) (zd_ 101 t98) fun t99 =>
      Do Try.prog (zh_ 101 1 [(0, t94)]) (fun t100 w101 =>
      Do Try.prog (zc_ .append #[101, 101] 101 [false, false] [t99, t100]) (fun t102 w103 =>
      Rd Try.prog (WS.at w103) (zeb_ (f69 10)) fun t104 =>
      Rd Try.prog (WS.at w103) (za_ 103 t104 6) fun t105 =>
      Do Try.prog (zab_ 101 t105 t102) (fun _ w106 =>
      Rd Try.prog (WS.at w106) (zeb_ t94) fun t107 =>
      Rd Try.prog (WS.at w106) (za_ 103 t107 3) fun t108 =>
      Rd Try.prog (WS.at w106) (zd_ 3 t108) fun t109 =>
      Rd Try.prog (WS.at w106) (zeb_ (f69 10)) fun t110 =>
      Rd Try.prog (WS.at w106) (za_ 103 t110 3) fun t111 =>
      Do Try.prog (zab_ 3 t111 t109) (fun _ w112 =>
      K72 (F.upd (F.upd (F.upd (F.upd (F.upd (F.upd (F.upd (F.upd (F.upd (F.upd (F.upd (F.upd (F.upd (F.upd (F.upd (F.upd (F.upd (F.upd (F.upd (F.upd (F.upd (F.upd (F.upd (F.upd (F.upd (F.upd (F.upd (F.upd (F.upd (F.upd (F.upd (F.upd (F.upd (F.upd (F.upd (F.upd (F.upd f69 67 t71) 68 t75) 69 t76) 12 t76) 70 t76) 71 t77) 78 t88) 79 t76) 80 (f69 10)) 81 t89) 82 t90) 83 t91) 84 t92) 77 t92) 85 t94) 86 t95) 13 t94) 14 t95) 87 t95) 88 t96) 89 (f69 10)) 90 (f69 10)) 91 t97) 92 t98) 93 t99) 94 t94) 95 t100) 96 t102) 97 t104) 98 t105) 99 (f69 10)) 100 t94) 101 t107) 102 t108) 103 t109) 104 t110) 105 t111) w112) w106) w103) w101) w93)) w70.drew)) (fun f73 w74 =>
    Rd Try.prog (WS.at w74) (sBin .add 3 true (f73 66) (.int .i64 1)) fun t113 =>
    Q68 .normal (F.upd (F.upd f73 106 t113) 66 t113) w74))
    (Q68 (.exit 0) (F.upd f69 67 t71) w70))
   (zgb_ 0 (seqQ (fun f114 w115 =>
  Rd Try.prog (WS.at w115) (zd_ 27 (f114 4)) fun t116 =>
  Rd Try.prog (WS.at w115) (zc_ .len #[27] 3 [false] [t116]) fun t117 =>
  Rd Try.prog (WS.at w115) (zeb_ (f114 10)) fun t118 =>
  Rd Try.prog (WS.at w115) (za_ 103 t118 5) fun t119 =>
  Do Try.prog (zab_ 3 t119 t117) (fun _ w120 =>
  k (.tuple #[(f114 10), (.bool true)]) w120) w115) (zv_ Try.prog [.tmp 8, .tmp 9] k)))
   (F.upd (F.upd (F.upd (F.upd (F.upd (F.upd (F.upd (F.upd (F.upd (F.upd (F.upd (F.upd (F.upd (F.upd (F.upd (F.upd (F.upd (F.upd (F.upd (F.upd (F.upd (F.upd (F.upd (F.upd (F.upd (F.upd (F.upd (F.upd (F.upd (F.upd (F.upd (F.upd (F.upd (F.upd (F.upd (F.upd (F.upd (F.upd (F.upd (F.upd (F.upd (F.upd (F.upd (F.upd (F.upd (F.upd (F.upd (F.upd (F.upd (F.upd (F.upd (F.upd (F.upd (F.upd (F.upd (zr_ [v0, v1, v2, v3, v4, v5]) 8 (.pointer none)) 9 (.bool false)) 15 v1) 16 t3) 17 t4) 18 t5) 19 t5) 20 t6) 21 t8) 22 t10) 23 t12) 24 t14) 25 t16) 26 t18) 27 t20) 28 t22) 29 t24) 30 t26) 31 t26) 32 t27) 33 t29) 34 t31) 35 t33) 36 t35) 37 t37) 38 t39) 39 t41) 40 t43) 41 t45) 42 t47) 43 t49) 44 v0) 45 t50) 46 v1) 47 t51) 48 t52) 49 v1) 50 v1) 51 t53) 52 t54) 53 t55) 54 t56) 55 t57) 10 t57) 56 t59) 57 t60) 58 t57) 59 t61) 60 t62) 61 t63) 62 t64) 63 t65) 64 t66) 65 t67) 66 (.int .i64 0)) w58.drew) w48.drew)) w46) w44) w42) w40) w38) w36) w34) w32) w30) w28) w25) w23) w21) w19) w17) w15) w13) w11) w9) w7) w.drew
theorem body118 : Try.f118.body = some (zi_ Try.f118) := by kernel_rfl
theorem same118 (v0 v1 v2 v3 v4 v5 : Value) (k : Value → World → Prop) (w : World) : wpF Try.prog pl118 (zi_ Try.f118) (zv_ Try.prog Try.f118.results.toList k) (zr_ [v0, v1, v2, v3, v4, v5]) w = S118 v0 v1 v2 v3 v4 v5 k w := by kernel_rfl
theorem enter118 {v0 v1 v2 v3 v4 v5 : Value} {k : Value → World → Prop} {w : World} (h : S118 v0 v1 v2 v3 v4 v5 k w) : CallK Try.prog 118 [v0, v1, v2, v3, v4, v5] k w :=
  zk_ (pl := pl118) zdb_ Try.func118 body118 (by kernel_rfl) (of_decide_eq_true (by kernel_rfl)) (by kernel_rfl) (by kernel_rfl) (Eq.mpr (same118 v0 v1 v2 v3 v4 v5 k w) h)

def pl107 : Plans := fun _ => ⟨false, [], .nil⟩
def S107 (v0 : Value) (k : Value → World → Prop) (w : World) : Prop :=
 Rd Try.prog (WS.at w) (sBin .sub 3 true (.int .i64 (-1)) v0) fun t1 =>
 k t1 w
theorem body107 : Try.f107.body = some (zi_ Try.f107) := by kernel_rfl
theorem same107 (v0 : Value) (k : Value → World → Prop) (w : World) : wpF Try.prog pl107 (zi_ Try.f107) (zv_ Try.prog Try.f107.results.toList k) (zr_ [v0]) w = S107 v0 k w := by kernel_rfl
theorem enter107 {v0 : Value} {k : Value → World → Prop} {w : World} (h : S107 v0 k w) : CallK Try.prog 107 [v0] k w :=
  zk_ (pl := pl107) zdb_ Try.func107 body107 (by kernel_rfl) (of_decide_eq_true (by kernel_rfl)) (by kernel_rfl) (by kernel_rfl) (Eq.mpr (same107 v0 k w) h)

end Go.Proofs.Yteabbgaffgpegaa

namespace Go.Sh
open Go
end Go.Sh
namespace Go.Proofs.Yteabbgaffgpegaa
open Go Go.Sh Go.RowKit

end Go.Proofs.Yteabbgaffgpegaa

namespace Go.Sh
open Go
theorem zde_ {g : Gram} (hg : zy_ g = true) : 1 ≤ g.nons ∧ g.nons ≤ 6 := by
  simp only [zy_, inB, Bool.and_eq_true, decide_eq_true_eq] at hg
  exact hg.1.1.1
theorem zrd_ {g : Gram} (hg : zy_ g = true) : 1 ≤ g.toks ∧ g.toks ≤ 4 := by
  simp only [zy_, inB, Bool.and_eq_true, decide_eq_true_eq] at hg
  exact hg.1.1.2
def isT (gm : Gram) (tree : List Int) : Bool := decide (0 < tree.length) && decide (endT gm.rules tree tree.length 0 0 = some tree.length)
def zkd_ (gm : Gram) (tree : List Int) : Bool := zy_ gm && decide (tree.length ≤ 60) && isT gm tree
end Go.Sh
namespace Go.Proofs.Yteabbgaffgpegaa
open Go Go.Sh Go.RowKit

open Go Go.Sh

def pl55 : Plans := fun _ => ⟨false, [], .nil⟩
def S55 (v0 v1 v2 v3 : Value) (k : Value → World → Prop) (w : World) : Prop :=
 Rd Try.prog (WS.at w) (zc_ .len #[27] 3 [false] [v1]) fun t1 =>
 Rd Try.prog (WS.at w) (sBin .eql 3 true t1 (.int .i64 0)) fun t2 =>
 zm_ t2
  (Rd Try.prog (WS.at w) (sBin .eql 3 false v2 v3) fun t3 =>
  k t3 w)
  (Rd Try.prog (WS.at w) (zf_ 27 v1 (.int .i64 0)) fun t4 =>
  Rd Try.prog (WS.at w) (zd_ 3 t4) fun t5 =>
  Rd Try.prog (WS.at w) (sBin .lss 3 true t5 (.int .i64 0)) fun t6 =>
  zm_ t6
   (Rd Try.prog (WS.at w) (sBin .lss 3 false v2 v3) fun t7 =>
   zb_ t7 true (fun k w' => k v0 w') (fun t8 w9 =>
   zb_ t7 true (fun k w' => Rd Try.prog (WS.at w9) (zeb_ t8) fun v => k v w') (fun t10 w11 =>
   zb_ t7 true (fun k w' => Rd Try.prog (WS.at w11) (za_ 97 t10 0) fun v => k v w') (fun t12 w13 =>
   zb_ t7 true (fun k w' => Rd Try.prog (WS.at w13) (zd_ 27 t12) fun v => k v w') (fun t14 w15 =>
   zb_ t7 true (fun k w' => k v2 w') (fun t16 w17 =>
   zb_ t7 true (fun k w' => Rd Try.prog (WS.at w17) (zf_ 27 t14 t16) fun v => k v w') (fun t18 w19 =>
   zb_ t7 true (fun k w' => Rd Try.prog (WS.at w19) (zd_ 3 t18) fun v => k v w') (fun t20 w21 =>
   zb_ t7 true (fun k w' => CallK Try.prog 107 [t20] k w') (fun t22 w23 =>
   zb_ t7 true (fun k w' => k t5 w') (fun t24 w25 =>
   zb_ t7 true (fun k w' => Rd Try.prog (WS.at w25) (sBin .eql 3 false t22 t24) fun v => k v w') (fun t26 w27 =>
   Rd Try.prog (WS.at w27) (zcb_ t7 t26 (.bool false)) fun t28 =>
   zb_ t28 true (fun k w' => k v0 w') (fun t29 w30 =>
   zb_ t28 true (fun k w' => k v1 w') (fun t31 w32 =>
   zb_ t28 true (fun k w' => Rd Try.prog (WS.at w32) (zbb_ 27 t31 (some (.int .i64 1)) none none) fun v => k v w') (fun t33 w34 =>
   zb_ t28 true (fun k w' => k v2 w') (fun t35 w36 =>
   zb_ t28 true (fun k w' => Rd Try.prog (WS.at w36) (sBin .add 3 true t35 (.int .i64 1)) fun v => k v w') (fun t37 w38 =>
   zb_ t28 true (fun k w' => k v3 w') (fun t39 w40 =>
   zb_ t28 true (fun k w' => CallK Try.prog 55 [t29, t33, t37, t39] k w') (fun t41 w42 =>
   Rd Try.prog (WS.at w42) (zcb_ t28 t41 (.bool false)) fun t43 =>
   k t43 w42) w40) w38) w36) w34) w32) w30) w27) w25) w23) w21) w19) w17) w15) w13) w11) w9) w)
   (zrb_ [47, 48, 49, 52, 53, 54, 55, 56, 57, 58, 59, 60, 61, 62, 63, 64, 65, 66, 67, 68, 69, 8, 50, 51, 10] (fun Q44 f45 w46 =>
    Rd Try.prog (WS.at w46) (sBin .leq 3 false (f45 10) (f45 3)) fun t47 =>
    zm_ t47
     (Rd Try.prog (WS.at w46) (zeb_ (f45 0)) fun t48 =>
     Rd Try.prog (WS.at w46) (za_ 97 t48 1) fun t49 =>
     Rd Try.prog (WS.at w46) (zf_ 95 t49 (f45 9)) fun t50 =>
     Rd Try.prog (WS.at w46) (zf_ 94 t50 (f45 2)) fun t51 =>
     Rd Try.prog (WS.at w46) (zf_ 93 t51 (f45 10)) fun t52 =>
     Rd Try.prog (WS.at w46) (zd_ 4 t52) fun t53 =>
     zb_ t53 true (fun k w' => k (f45 0) w') (fun t54 w55 =>
     zb_ t53 true (fun k w' => k (f45 1) w') (fun t56 w57 =>
     zb_ t53 true (fun k w' => Rd Try.prog (WS.at w57) (zbb_ 27 t56 (some (.int .i64 1)) none none) fun v => k v w') (fun t58 w59 =>
     zb_ t53 true (fun k w' => k (f45 10) w') (fun t60 w61 =>
     zb_ t53 true (fun k w' => k (f45 3) w') (fun t62 w63 =>
     zb_ t53 true (fun k w' => CallK Try.prog 55 [t54, t58, t60, t62] k w') (fun t64 w65 =>
     Rd Try.prog (WS.at w65) (zcb_ t53 t64 (.bool false)) fun t66 =>
     zm_ t66
      (Q44 .ret (F.upd (F.upd (F.upd (F.upd (F.upd (F.upd (F.upd (F.upd (F.upd (F.upd (F.upd (F.upd (F.upd (F.upd (F.upd (F.upd (F.upd (F.upd (F.upd (F.upd (F.upd (F.upd f45 47 (f45 10)) 48 (f45 3)) 49 t47) 52 (f45 0)) 53 (f45 9)) 54 (f45 2)) 55 (f45 10)) 56 t48) 57 t49) 58 t50) 59 t51) 60 t52) 61 t53) 62 t53) 63 t54) 64 t56) 65 t58) 66 t60) 67 t62) 68 t64) 69 t66) 8 (.bool true)) w65)
      (Rd Try.prog (WS.at w65) (sBin .add 3 true (f45 10) (.int .i64 1)) fun t67 =>
      Q44 .normal (F.upd (F.upd (F.upd (F.upd (F.upd (F.upd (F.upd (F.upd (F.upd (F.upd (F.upd (F.upd (F.upd (F.upd (F.upd (F.upd (F.upd (F.upd (F.upd (F.upd (F.upd (F.upd (F.upd (F.upd f45 47 (f45 10)) 48 (f45 3)) 49 t47) 52 (f45 0)) 53 (f45 9)) 54 (f45 2)) 55 (f45 10)) 56 t48) 57 t49) 58 t50) 59 t51) 60 t52) 61 t53) 62 t53) 63 t54) 64 t56) 65 t58) 66 t60) 67 t62) 68 t64) 69 t66) 50 (f45 10)) 51 t67) 10 t67) w65)) w63) w61) w59) w57) w55) w46)
     (Q44 (.exit 0) (F.upd (F.upd (F.upd f45 47 (f45 10)) 48 (f45 3)) 49 t47) w46))
    (zgb_ 0 (seqQ (fun f68 w69 =>
   k (.bool false) w69) (zv_ Try.prog [.tmp 8] k)))
    (F.upd (F.upd (F.upd (F.upd (F.upd (F.upd (F.upd (F.upd (F.upd (F.upd (F.upd (F.upd (zr_ [v0, v1, v2, v3]) 8 (.bool false)) 11 v1) 12 t1) 13 t2) 17 v1) 18 t4) 19 t5) 9 t5) 20 t5) 21 t6) 46 v2) 10 v2) w))
theorem body55 : Try.f55.body = some (zi_ Try.f55) := by kernel_rfl
theorem same55 (v0 v1 v2 v3 : Value) (k : Value → World → Prop) (w : World) : wpF Try.prog pl55 (zi_ Try.f55) (zv_ Try.prog Try.f55.results.toList k) (zr_ [v0, v1, v2, v3]) w = S55 v0 v1 v2 v3 k w := by kernel_rfl
theorem enter55 {v0 v1 v2 v3 : Value} {k : Value → World → Prop} {w : World} (h : S55 v0 v1 v2 v3 k w) : CallK Try.prog 55 [v0, v1, v2, v3] k w :=
  zk_ (pl := pl55) zdb_ Try.func55 body55 (by kernel_rfl) (of_decide_eq_true (by kernel_rfl)) (by kernel_rfl) (by kernel_rfl) (Eq.mpr (same55 v0 v1 v2 v3 k w) h)

def pl54 : Plans := fun i => match i with
  | 14 => ⟨false, [18], .step 0 .any (.step 1 .any (.step 2 .held (.step 3 .any (.step 4 .any (.step 5 .any (.step 6 .any (.step 7 .any (.step 8 .any (.step 9 .any (.step 10 .held (.step 11 .any (.step 12 .any (.step 13 .any (.step 14 .any (.step 15 .held (.step 16 .any (.step 17 .any (.step 18 .last (.step 19 .any (.nil))))))))))))))))))))⟩
  | 15 => ⟨false, [10], .step 0 .any (.step 1 .any (.step 2 .held (.step 3 .any (.step 4 .any (.step 5 .any (.step 6 .any (.step 7 .any (.step 8 .any (.step 9 .any (.step 10 .last (.nil)))))))))))⟩
  | _ => ⟨false, [], .nil⟩
def S54 (v0 v1 : Value) (k : Value → World → Prop) (w : World) : Prop :=
 Do Try.prog (sBox 26 v0) (fun t1 w2 =>
 Rd Try.prog (WS.at w2) (zw_ 97 [(0, v1)]) fun t3 =>
 Do Try.prog (sBox 97 t3) (fun t4 w5 =>
 zrb_ [14, 6, 15, 16, 17, 18, 19, 20, 21, 8, 22, 23, 24, 25, 26, 27, 9, 28, 10, 29, 30, 31, 32, 35, 36, 37, 38, 39, 40, 41, 42, 43, 44, 45, 46, 47, 48, 49, 50, 51, 52, 53, 54, 55, 56, 57, 58, 59, 60, 61, 62, 63, 64, 6, 33, 34, 10, 65, 25, 66, 18] (fun Q6 f7 w8 =>
  zm_ (f7 6)
   (Rd Try.prog (WS.at w8) (za_ 26 (f7 2) 2) fun t9 =>
   Rd Try.prog (WS.at w8) (zd_ 24 t9) fun t10 =>
   Rd Try.prog (WS.at w8) (zc_ .len #[24] 3 [false] [t10]) fun t11 =>
   zrb_ [19, 20, 21, 8, 22, 23, 24, 25, 26, 27, 9, 28, 10, 29, 30, 31, 32, 35, 36, 37, 38, 39, 40, 41, 42, 43, 44, 45, 46, 47, 48, 49, 50, 51, 52, 53, 54, 55, 56, 57, 58, 59, 60, 61, 62, 63, 64, 6, 33, 34, 10, 65, 25, 66, 18] (fun Q12 f13 w14 =>
    Rd Try.prog (WS.at w14) (sBin .lss 3 false (f13 18) (f13 17)) fun t15 =>
    zm_ t15
     (Rd Try.prog (WS.at w14) (zf_ 24 (f13 16) (f13 18)) fun t16 =>
     Rd Try.prog (WS.at w14) (zd_ 106 t16) fun t17 =>
     Do Try.prog (zkb_ 106) (fun t18 w19 =>
     Do Try.prog (zab_ 106 t18 t17) (fun _ w20 =>
     Rd Try.prog (WS.at w20) (zc_ .len #[27] 3 [false] [(f13 1)]) fun t21 =>
     Rd Try.prog (WS.at w20) (sBin .add 3 true t21 (.int .i64 1)) fun t22 =>
     zrb_ [26, 27, 9, 28, 10, 29, 30, 31, 32, 35, 36, 37, 38, 39, 40, 41, 42, 43, 44, 45, 46, 47, 48, 49, 50, 51, 52, 53, 54, 55, 56, 57, 58, 59, 60, 61, 62, 63, 64, 6, 33, 34, 10, 65, 25] (fun Q23 f24 w25 =>
      Rd Try.prog (WS.at w25) (sBin .lss 3 false (f24 25) (f24 24)) fun t26 =>
      zm_ t26
       (zrb_ [29, 30, 31, 32, 35, 36, 37, 38, 39, 40, 41, 42, 43, 44, 45, 46, 47, 48, 49, 50, 51, 52, 53, 54, 55, 56, 57, 58, 59, 60, 61, 62, 63, 64, 6, 33, 34, 10] (fun Q27 f28 w29 =>
        Rd Try.prog (WS.at w29) (zc_ .len #[27] 3 [false] [(f28 1)]) fun t30 =>
        Rd Try.prog (WS.at w29) (sBin .leq 3 false (f28 10) t30) fun t31 =>
        zm_ t31
         (Join (fun K32 =>
         Rd Try.prog WS.any (za_ 106 (f28 8) 0) fun t35 =>
         Rd Try.prog (WS.at w29.drew) (zd_ 3 t35) fun t36 =>
         Rd Try.prog WS.any (zeb_ (f28 5)) fun t37 =>
         Rd Try.prog WS.any (za_ 97 t37 1) fun t38 =>
         Rd Try.prog WS.any (zf_ 95 t38 t36) fun t39 =>
         Rd Try.prog WS.any (zf_ 94 t39 (f28 9)) fun t40 =>
         Rd Try.prog WS.any (zf_ 93 t40 (f28 10)) fun t41 =>
         Rd Try.prog (WS.at w29.drew) (zd_ 4 t41) fun t42 =>
         Rd Try.prog WS.any (sUn .not t42) fun t43 =>
         zb_ t43 true (fun k w' => k (f28 5) w') (fun t44 w45 =>
         zb_ t43 true (fun k w' => Rd Try.prog WS.any (za_ 106 (f28 8) 1) fun v => k v w') (fun t46 w47 =>
         zb_ t43 true (fun k w' => Rd Try.prog (WS.at w29.drew) (zd_ 27 t46) fun v => k v w') (fun t48 w49 =>
         zb_ t43 true (fun k w' => k (f28 9) w') (fun t50 w51 =>
         zb_ t43 true (fun k w' => k (f28 10) w') (fun t52 w53 =>
         zb_ t43 true (fun k w' => CallK Try.prog 55 [t44, t48, t50, t52] k w') (fun t54 w55 =>
         Rd Try.prog WS.any (zcb_ t43 t54 (.bool false)) fun t56 =>
         zm_ t56
          (Rd Try.prog WS.any (za_ 106 (f28 8) 0) fun t57 =>
          Rd Try.prog (WS.at w55.drew) (zd_ 3 t57) fun t58 =>
          Rd Try.prog WS.any (zeb_ (f28 5)) fun t59 =>
          Rd Try.prog WS.any (za_ 97 t59 1) fun t60 =>
          Rd Try.prog WS.any (zf_ 95 t60 t58) fun t61 =>
          Rd Try.prog WS.any (zf_ 94 t61 (f28 9)) fun t62 =>
          Rd Try.prog WS.any (zf_ 93 t62 (f28 10)) fun t63 =>
          Do Try.prog (zab_ 4 t63 (.bool true)) (fun _ w64 =>
          K32 (F.upd (F.upd (F.upd (F.upd (F.upd (F.upd (F.upd (F.upd (F.upd (F.upd (F.upd (F.upd (F.upd (F.upd (F.upd (F.upd (F.upd (F.upd (F.upd (F.upd (F.upd (F.upd (F.upd (F.upd (F.upd (F.upd (F.upd (F.upd (F.upd (F.upd (F.upd (F.upd (F.upd (F.upd (F.upd f28 29 (f28 10)) 30 (f28 1)) 31 t30) 32 t31) 35 (f28 5)) 36 t35) 37 t36) 38 (f28 9)) 39 (f28 10)) 40 t37) 41 t38) 42 t39) 43 t40) 44 t41) 45 t42) 46 t43) 47 t43) 48 t44) 49 t46) 50 t48) 51 t50) 52 t52) 53 t54) 54 t56) 55 (f28 5)) 56 t57) 57 t58) 58 (f28 9)) 59 (f28 10)) 60 t59) 61 t60) 62 t61) 63 t62) 64 t63) 6 (.bool true)) w64) w55.drew)
          (K32 (F.upd (F.upd (F.upd (F.upd (F.upd (F.upd (F.upd (F.upd (F.upd (F.upd (F.upd (F.upd (F.upd (F.upd (F.upd (F.upd (F.upd (F.upd (F.upd (F.upd (F.upd (F.upd (F.upd (F.upd f28 29 (f28 10)) 30 (f28 1)) 31 t30) 32 t31) 35 (f28 5)) 36 t35) 37 t36) 38 (f28 9)) 39 (f28 10)) 40 t37) 41 t38) 42 t39) 43 t40) 44 t41) 45 t42) 46 t43) 47 t43) 48 t44) 49 t46) 50 t48) 51 t50) 52 t52) 53 t54) 54 t56) w55)) w53) w51) w49) w47) w45) w29.drew) (fun f33 w34 =>
         Rd Try.prog (WS.at w34) (sBin .add 3 true (f33 10) (.int .i64 1)) fun t65 =>
         Q27 .normal (F.upd (F.upd (F.upd f33 33 (f33 10)) 34 t65) 10 t65) w34))
         (Q27 (.exit 6) (F.upd (F.upd (F.upd (F.upd f28 29 (f28 10)) 30 (f28 1)) 31 t30) 32 t31) w29))
        (zgb_ 6 (zgb_ 5 (seqQ (fun f66 w67 =>
       Rd Try.prog (WS.at w67) (sBin .add 3 true (f66 25) (.int .i64 1)) fun t68 =>
       Q23 .normal (F.upd (F.upd f66 65 t68) 25 t68) w67) Q23)))
        (F.upd (F.upd (F.upd (F.upd (F.upd f24 26 t26) 27 (f24 25)) 9 (f24 25)) 28 (f24 25)) 10 (f24 25)) w25)
       (Q23 (.exit 4) (F.upd f24 26 t26) w25))
      (zgb_ 4 (zgb_ 3 (seqQ (fun f69 w70 =>
     Rd Try.prog (WS.at w70) (sBin .add 3 true (f69 18) (.int .i64 1)) fun t71 =>
     Q12 .normal (F.upd (F.upd f69 66 t71) 18 t71) w70) Q12)))
      (F.upd (F.upd (F.upd (F.upd (F.upd (F.upd (F.upd (F.upd f13 19 t15) 20 t16) 21 t17) 8 t18) 22 (f13 1)) 23 t21) 24 t22) 25 (.int .i64 0)) w20) w19) w14)
     (Q12 (.exit 2) (F.upd f13 19 t15) w14))
    (zgb_ 2 (zgb_ 1 Q6))
    (F.upd (F.upd (F.upd (F.upd (F.upd (F.upd f7 14 (f7 6)) 6 (.bool false)) 15 t9) 16 t10) 17 t11) 18 (.int .i64 0)) w8)
   (Q6 (.exit 0) (F.upd f7 14 (f7 6)) w8))
  (zgb_ 0 (seqQ (fun f72 w73 =>
 k (f72 5) w73) (zv_ Try.prog [.tmp 4] k)))
  (F.upd (F.upd (F.upd (F.upd (F.upd (F.upd (F.upd (zr_ [v0, v1]) 2 t1) 4 (.pointer none)) 11 v1) 12 t3) 13 t4) 5 t4) 6 (.bool true)) w5) w2) w
theorem body54 : Try.f54.body = some (zi_ Try.f54) := by kernel_rfl
theorem same54 (v0 v1 : Value) (k : Value → World → Prop) (w : World) : wpF Try.prog pl54 (zi_ Try.f54) (zv_ Try.prog Try.f54.results.toList k) (zr_ [v0, v1]) w = S54 v0 v1 k w := by kernel_rfl
theorem enter54 {v0 v1 : Value} {k : Value → World → Prop} {w : World} (h : S54 v0 v1 k w) : CallK Try.prog 54 [v0, v1] k w :=
  zk_ (pl := pl54) zdb_ Try.func54 body54 (by kernel_rfl) (of_decide_eq_true (by kernel_rfl)) (by kernel_rfl) (by kernel_rfl) (Eq.mpr (same54 v0 v1 k w) h)

def pl53 : Plans := fun _ => ⟨false, [], .nil⟩
def S53 (v0 v1 : Value) (k : Value → World → Prop) (w : World) : Prop :=
 Do Try.prog (sBox 3 v0) (fun t1 w2 =>
 Rd Try.prog (WS.at w2) (zc_ .len #[27] 3 [false] [v1]) fun t3 =>
 Rd Try.prog (WS.at w2) (sBin .leq 3 true t3 (.int .i64 10)) fun t4 =>
 zb_ t4 true (fun k w' => k v1 w') (fun t5 w6 =>
 zb_ t4 true (fun k w' => Rd Try.prog (WS.at w6) (zyd_ (.func 115) [] [t1]) fun v => k v w') (fun t7 w8 =>
 zb_ t4 true (fun k w' => CallK Try.prog 101 [t5, t7] k w') (fun t9 w10 =>
 zb_ t4 true (fun k w' => Rd Try.prog (WS.at w10) (sUn .not t9) fun v => k v w') (fun t11 w12 =>
 Rd Try.prog (WS.at w12) (zcb_ t4 t11 (.bool false)) fun t13 =>
 k t13 w12) w10) w8) w6) w2) w
theorem body53 : Try.f53.body = some (zi_ Try.f53) := by kernel_rfl
theorem same53 (v0 v1 : Value) (k : Value → World → Prop) (w : World) : wpF Try.prog pl53 (zi_ Try.f53) (zv_ Try.prog Try.f53.results.toList k) (zr_ [v0, v1]) w = S53 v0 v1 k w := by kernel_rfl
theorem enter53 {v0 v1 : Value} {k : Value → World → Prop} {w : World} (h : S53 v0 v1 k w) : CallK Try.prog 53 [v0, v1] k w :=
  zk_ (pl := pl53) zdb_ Try.func53 body53 (by kernel_rfl) (of_decide_eq_true (by kernel_rfl)) (by kernel_rfl) (by kernel_rfl) (Eq.mpr (same53 v0 v1 k w) h)

def pl115 : Plans := fun _ => ⟨false, [], .nil⟩
def S115 (v0 v1 : Value) (k : Value → World → Prop) (w : World) : Prop :=
 Rd Try.prog (WS.at w) (zd_ 3 v1) fun t1 =>
 Rd Try.prog (WS.at w) (sBin .sub 3 true t1 (.int .i64 1)) fun t2 =>
 CallK Try.prog 65 [v0, (.int .i64 0), t2] (fun t3 w4 =>
 Rd Try.prog (WS.at w4) (sUn .not t3) fun t5 =>
 k t5 w4) w
theorem body115 : Try.f115.body = some (zi_ Try.f115) := by kernel_rfl
theorem same115 (v0 v1 : Value) (k : Value → World → Prop) (w : World) : wpF Try.prog pl115 (zi_ Try.f115) (zv_ Try.prog Try.f115.results.toList k) (zr_ [v0, v1]) w = S115 v0 v1 k w := by kernel_rfl
theorem enter115 {v0 v1 : Value} {k : Value → World → Prop} {w : World} (h : S115 v0 v1 k w) : CallK Try.prog 115 [v0, v1] k w :=
  zk_ (pl := pl115) zdb_ Try.func115 body115 (by kernel_rfl) (of_decide_eq_true (by kernel_rfl)) (by kernel_rfl) (by kernel_rfl) (Eq.mpr (same115 v0 v1 k w) h)

end Go.Proofs.Yteabbgaffgpegaa

namespace Go.Sh
open Go
structure TabS (w : World) (U : Option Addr) (nons n : Nat) (T : Tab) : Prop where
  ptr : 0 < nons → U = some (ad U)
  row : ∀ x, x < nons → ∃ R c, w.cell? ((ad U).add x) = some (.slice R (n * n) c) ∧ R = some (ad R) ∧ ∀ i j, i < n → j < n → w.cell? ((ad R).add (i * n + j)) = some (.bool (T x i j))
theorem TabS.gr {w w' : World} {U : Option Addr} {nons n : Nat} {T : Tab} (h : TabS w U nons n T) (g : Gr w w') : TabS w' U nons n T := ⟨h.ptr, fun x hx => by
  obtain ⟨R, c, h1, h2, h3⟩ := h.row x hx
  exact ⟨R, c, g.cell h1, h2, fun i j hi hj => g.cell (h3 i j hi hj)⟩⟩
theorem zri_ {n i j : Nat} (hi : i < n) (hj : j < n) : i * n + j < n * n := by
  have : (i + 1) * n ≤ n * n := Nat.mul_le_mul_right n hi
  rw [Nat.add_mul] at this
  omega
theorem foldl_range {α : Type} (f : α → Nat → α) (s : α) (n : Nat) : (List.range (n + 1)).foldl f s = f ((List.range n).foldl f s) n := by
  rw [List.range_succ, List.foldl_append]
  rfl
theorem zap_ {α : Type} (f : α → Nat → α) (s : α) (a n : Nat) : (List.range' a (n + 1)).foldl f s = f ((List.range' a n).foldl f s) (a + n) := by
  rw [List.range'_concat, List.foldl_append]
  simp
theorem foldl_take {α : Type} (f : α → RuleL → α) (s : α) (rs : List RuleL) {n : Nat} (h : n < rs.length) : (rs.take (n + 1)).foldl f s = f ((rs.take n).foldl f s) (rul rs n) := by
  rw [List.take_succ_eq_append_getElem h, List.foldl_append, zcd_ h]
  rfl
end Go.Sh
namespace Go.Proofs.Yteabbgaffgpegaa
open Go Go.Sh Go.RowKit

end Go.Proofs.Yteabbgaffgpegaa

namespace Go.Sh
open Go
theorem drop_getD {R : List Int} {i : Nat} (h : i < R.length) : R.drop i = R.getD i 0 :: R.drop (i + 1) := by
  rw [List.drop_eq_getElem_cons h]
  simp [List.getD_eq_getElem?_getD, h]
end Go.Sh
namespace Go.Proofs.Yteabbgaffgpegaa
open Go Go.Sh Go.RowKit

end Go.Proofs.Yteabbgaffgpegaa

namespace Go.Sh
open Go
theorem ptrs_one (bs : List Nat) : ∀ v ∈ bs.map ptrv, v.oneCell' = true := by
  intro v hv
  obtain ⟨b, _, rfl⟩ := List.mem_map.1 hv
  rfl
theorem kids_le (ks : List PT) : ks.length ≤ (PT.partsL ks).length := by
  induction ks with
  | nil => simp [PT.partsL]
  | cons k ks ih =>
    rw [PT.partsL, zjj_]
    simp
    omega
end Go.Sh
namespace Go.Proofs.Yteabbgaffgpegaa
open Go Go.Sh Go.RowKit

end Go.Proofs.Yteabbgaffgpegaa

namespace Go.Sh
open Go
structure Whole (gm : Gram) (tree : List Int) (p : PT) (ws : List Int) : Prop where
  good : zy_ gm = true
  le : tree.length ≤ 60
  read : zmb_ gm.rules tree tree.length 0 0 [] = some (p, ws)
  fin : p.fin = tree.length
theorem Whole.laid {gm : Gram} {tree : List Int} {p : PT} {ws : List Int} (h : Whole gm tree p ws) : Laid p.parts 0 := (zyg_ _ _ _ _ _ _ _ _ h.read).1
theorem Whole.len {gm : Gram} {tree : List Int} {p : PT} {ws : List Int} (h : Whole gm tree p ws) : p.parts.length = tree.length := by
  have := (zyg_ _ _ _ _ _ _ _ _ h.read).2.1
  have := h.fin
  omega
theorem Whole.words {gm : Gram} {tree : List Int} {p : PT} {ws : List Int} (h : Whole gm tree p ws) : ws.length ≤ 240 := by
  have := (zbi_ (zfg_ h.good) _ _ _ _ _ _ h.read).2
  have := h.len
  have := h.le
  simp at *
  omega
theorem asked_whole {gm : Gram} {tree : List Int} : (zkd_ gm tree = true → ∃ p ws, Whole gm tree p ws) ∧ (zkd_ gm tree = false → ∀ p ws, ¬ Whole gm tree p ws) := by
  have he := endT_eq gm.rules tree tree.length 0 0 []
  constructor
  · intro h
    simp only [zkd_, isT, Bool.and_eq_true, decide_eq_true_eq] at h
    rw [h.2.2] at he
    cases hz : zmb_ gm.rules tree tree.length 0 0 [] with
    | none => rw [hz] at he; cases he
    | some z =>
      rw [hz] at he
      exact ⟨z.1, z.2, h.1.1, h.1.2, hz, by simpa using he.symm⟩
  · intro h p ws hw
    have h1 : zkd_ gm tree = true := by
      simp only [zkd_, isT, Bool.and_eq_true, decide_eq_true_eq]
      refine ⟨⟨hw.good, hw.le⟩, ?_, ?_⟩
      · have := hw.len
        rw [zjj_] at this
        simp at this
        omega
      · rw [he, hw.read]
        simp [hw.fin]
    rw [h] at h1
    cases h1
end Go.Sh
namespace Go.Proofs.Yteabbgaffgpegaa
open Go Go.Sh Go.RowKit

end Go.Proofs.Yteabbgaffgpegaa

namespace Go.Sh
open Go
def wholeP (gm : Gram) (tree : List Int) : Option PT := if zkd_ gm tree = true then (zmb_ gm.rules tree tree.length 0 0 []).map fun z => z.1 else none
theorem Whole.eq {gm : Gram} {tree : List Int} {p : PT} {ws : List Int} (h : Whole gm tree p ws) : wholeP gm tree = some p := by
  have ha : zkd_ gm tree = true := by
    cases e : zkd_ gm tree with
    | true => rfl
    | false => exact absurd h (asked_whole.2 e p ws)
  unfold wholeP
  rw [if_pos ha, h.read]
  rfl
end Go.Sh
namespace Go.Proofs.Yteabbgaffgpegaa
open Go Go.Sh Go.RowKit


end Go.Proofs.Yteabbgaffgpegaa
