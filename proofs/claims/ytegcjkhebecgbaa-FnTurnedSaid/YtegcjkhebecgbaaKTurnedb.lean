/- Texts of this repository put together: ShG5, ShG6, ShH1, ShH2, ShH3, ShH4, ShH5, ShK2, ShW2, Sh70, ShP2, ShK3, ShR, ShZ2, Ca, ShZ3, ShZ4, ShZ5, ShZ6, ShZ7, ShV. -/
import Derived.Test.YtegcjkhebecgbaaKTurneda
import Derived.Shelf.Slices.Reverse
import Derived.Shelf.Sort.Plain
import Derived.Shelf.Slices.In.SortNone
import Derived.WalkKit
import Derived.ProofKit
import Derived.OpenShut
import Derived.ShutString
import Derived.ChangeOld
import Derived.Below
import Derived.SizedLaws
import Derived.Deep.Slices
import Derived.Test.YtegcjkhebecgbaaProg

set_option linter.unusedVariables false
set_option linter.unusedSimpArgs false
set_option maxRecDepth 100000
namespace Go.Sh
open Go
def symB (nons toks s : Int) : Bool := inB s (-toks) (nons - 1)
def zfd_ (nons toks : Int) (rs : List RuleL) (i : Nat) : Bool :=
  inB (rul rs i).1 0 (nons - 1) && decide ((rul rs i).2.length ≤ 4) && (rul rs i).2.all (symB nons toks) && !(rs.take i).any fun q => decide (rul rs i = q)
def zv_ (g : Gram) : Bool := inB g.nons 1 6 && inB g.toks 1 4 && decide (g.rules.length ≤ 16) && (List.range g.rules.length).all (zfd_ g.nons g.toks g.rules)
theorem zhp_ {n : Nat} {p : Nat → Bool} (h : ∀ j, j < n → p j = true) : (List.range n).all p = true := by
  rw [List.all_eq_true]
  intro x hx
  exact h x (List.mem_range.1 hx)
theorem zip_ {n i : Nat} {p : Nat → Bool} (hi : i < n) (h : p i = false) : (List.range n).all p = false := by
  rw [List.all_eq_false]
  exact ⟨i, List.mem_range.2 hi, by rw [h]; decide⟩
theorem zfm_ {rs : List RuleL} {p : RuleL → Bool} {i : Nat} (hi : i < rs.length) (h : p (rul rs i) = true) : rs.any p = true := by
  rw [List.any_eq_true]
  exact ⟨_, by rw [zpc_ hi]; exact List.getElem_mem hi, h⟩
theorem zvi_ {rs : List RuleL} {p : RuleL → Bool} (h : ∀ j, j < rs.length → p (rul rs j) = false) : rs.any p = false := by
  rw [List.any_eq_false]
  intro x hx
  obtain ⟨j, hj, rfl⟩ := List.getElem_of_mem hx
  have := h j hj
  rw [zpc_ hj] at this
  simp [this]
theorem sub_zero (Y : Option Addr) (c sz : Nat) : sub Y 0 c sz = Y := by
  unfold sub
  split
  · rfl
  · cases Y <;> simp [zq35]
theorem RulesF.take {F : Nat → Prop} {w : World} {X : Option Addr} {rs : List RuleL} (h : RulesF F w X rs) (i : Nat) : RulesF F w X (rs.take i) := by
  have hl : (rs.take i).length ≤ rs.length := by simp; omega
  refine ⟨by have := h.le; omega, fun hp => h.ptr (by omega), fun hp => h.foot (by omega), fun j hj => ?_⟩
  have hji : j < i := by simp at hj; omega
  rw [zdk_ hji]
  exact h.row j (by omega)
end Go.Sh
namespace Go.Proofs.Ytegcjkhebecgbaa
open Go Go.Sh Go.RowKit

theorem l1Symbol_c {F : Nat → Prop} {w : World} {v : Value} {gm : Gram} {s : Int} (hv : GramV F w v gm) (hn : inB gm.nons 1 6 = true) (ht : inB gm.toks 1 4 = true) {k : Value → World → Prop} (hk : ∀ w', Gr w w' → k (.bool (symB gm.nons gm.toks s)) w') :
    CallK Try.prog 238 [v, .int .i64 s] k w := by
  obtain ⟨Y, c, rfl, hc, hy⟩ := hv
  have hn' : 1 ≤ gm.nons ∧ gm.nons ≤ 6 := by simpa [inB] using hn
  have ht' : 1 ≤ gm.toks ∧ gm.toks ≤ 4 := by simpa [inB] using ht
  refine enter238 ?_
  unfold S238
  refine zwb_ fun b w1 g1 hb1 hB => ?_
  simp only [go_sem, Nat.reduceEqDiff]
  rw [ldB3 hB rfl]
  simp only [go_sem, Nat.reduceEqDiff]
  rw [ldB3 hB rfl]
  simp only [go_sem, Nat.reduceEqDiff]
  rw [zt_ (by omega) (by omega), zt_ (by omega) (by omega)]
  exact zpg_ (hk _ g1)
theorem l1Same_c {w : World} {X Y : Option Addr} {c d : Nat} {xs ys : List Int} (hx : Ints w X xs) (hy : Ints w Y ys) {k : Value → World → Prop} (hk : ∀ w', Gr w w' → k (.bool (decide (xs = ys))) w') :
    CallK Try.prog 300 [.slice X xs.length c, .slice Y ys.length d] k w := by
  refine enter300 ?_
  unfold S300
  simp only [go_sem, Nat.reduceEqDiff]
  by_cases hl : xs.length = ys.length
  rotate_left
  · simp only [Int.ofNat_inj, hl, decide_false, Bool.not_false, go_sem, Nat.reduceEqDiff]
    have := hk _ (Gr.refl w)
    rwa [decide_eq_false (fun e => hl (by rw [e]))] at this
  simp only [Int.ofNat_inj, hl, decide_true, Bool.not_true, go_sem, Nat.reduceEqDiff]
  rw [← hl]
  refine ⟨fun f w' => ∃ i : Nat, i ≤ xs.length ∧ f 13 = .int .i64 i ∧ Gr w w' ∧ xs.take i = ys.take i, fun f _ => xs.length - (intOf (f 13)).toNat, ⟨0, Nat.zero_le _, rfl, Gr.refl w, rfl⟩, ?_⟩
  rintro f w1 hag ⟨i, hi, h13, hg, hpre⟩
  have h0 : f 0 = .slice X xs.length c := hag 0 (by decide)
  have h1 : f 1 = .slice Y xs.length d := hag 1 (by decide)
  have h12 : f 12 = .int .i64 xs.length := hag 12 (by decide)
  simp only [h0, h1, h12, h13, go_sem, Nat.reduceEqDiff]
  by_cases hlt : i < xs.length
  · have hlt' : (i : Int) < xs.length := by omega
    have := hx.le
    simp only [hlt', decide_true, go_sem, Nat.reduceEqDiff]
    rw [zcc_ hx.ptr hlt, ld3 ((hx.gr (zd_ hg (zfc_ w1))).cell i hlt), zcc_ (hl ▸ hy.ptr) hlt, ld3 ((hy.gr (zd_ hg (zfc_ w1))).cell i (by omega))]
    simp only [go_sem, Nat.reduceEqDiff]
    by_cases he : xs.getD i 0 = ys.getD i 0
    · simp only [he, decide_true, Bool.not_true, go_sem, Nat.reduceEqDiff]
      rw [zt_ (by omega) (by omega)]
      refine ⟨⟨i + 1, hlt, rfl, zd_ hg (zfc_ w1), ?_⟩, ?_⟩
      · rw [zhf_ hlt, zhf_ (by omega), hpre, he]
      · simp only [intOf]
        omega
    · simp only [he, decide_false, Bool.not_false, go_sem, Nat.reduceEqDiff]
      have := hk _ (zd_ hg (zfc_ w1))
      rwa [decide_eq_false (fun e => he (by rw [e]))] at this
  · simp only [show ¬ (i : Int) < xs.length from by omega, decide_false, go_sem, Nat.reduceEqDiff]
    have := hk _ hg
    rwa [decide_eq_true] at this
    rwa [List.take_of_length_le (by omega), List.take_of_length_le (by omega)] at hpre
theorem zgh_ {F E : Nat → Prop} {w : World} {v u : Value} {r q : RuleL} (hv : RuleV F w v r) (hu : RuleV E w u q) {k : Value → World → Prop} (hk : ∀ w', Gr w w' → k (.bool (decide (r = q))) w') :
    CallK Try.prog 239 [v, u] k w := by
  obtain ⟨Y, c, rfl, hc, hy⟩ := hv
  obtain ⟨Z, d, rfl, hd, hz⟩ := hu
  refine enter239 ?_
  unfold S239
  refine zwb_ fun b w1 g1 hb1 hb => ?_
  refine zwb_ fun b' w2 g2 hb2 hb' => ?_
  have hb := hb.gr g2
  have g := zd_ g1 g2
  simp only [go_sem, Nat.reduceEqDiff]
  rw [ldB3 hb rfl, ldB3 hb' rfl]
  simp only [go_sem, Nat.reduceEqDiff]
  by_cases h : r.1 = q.1
  · simp only [h, decide_true, go_sem, Nat.reduceEqDiff]
    rw [zpe_ hb rfl]
    rw [zpe_ hb' rfl]
    refine l1Same_c (hy.is.gr g) (hz.is.gr g) fun w3 g3 => ?_
    have := hk w3 (zd_ g g3)
    by_cases h2 : r.2 = q.2
    · simp only [h2, decide_true, go_sem, Nat.reduceEqDiff]
      rwa [decide_eq_true (Prod.ext h h2)] at this
    · simp only [h2, decide_false, go_sem, Nat.reduceEqDiff]
      rwa [decide_eq_false (fun e => h2 (by rw [e]))] at this
  · simp only [h, decide_false, go_sem, Nat.reduceEqDiff]
    have := hk w2 g
    rwa [decide_eq_false (fun e => h (by rw [e]))] at this
theorem zdd_ {F : Nat → Prop} {w : World} {v : Value} {gm : Gram} (hv : GramV F w v gm) {k : Value → World → Prop} (hk : ∀ w', Gr w w' → k (.bool (zv_ gm)) w') :
    CallK Try.prog 127 [v] k w := by
  have hv0 := hv
  obtain ⟨Y, c, rfl, hc, hy⟩ := hv
  refine enter127 ?_
  unfold S127
  refine zwb_ fun b w1 g1 hb1 hB => ?_
  simp only [go_sem, Nat.reduceEqDiff]
  rw [ldB3 hB rfl]
  refine zpg_ ?_
  cases hn : inB gm.nons 1 6
  · simp only [Bool.not_false, go_sem, Nat.reduceEqDiff]
    have := hk _ g1
    rwa [show zv_ gm = false from by simp [zv_, hn]] at this
  simp only [Bool.not_true, go_sem, Nat.reduceEqDiff]
  rw [ldB3 hB rfl]
  refine zpg_ ?_
  cases ht : inB gm.toks 1 4
  · simp only [Bool.not_false, go_sem, Nat.reduceEqDiff]
    have := hk _ g1
    rwa [show zv_ gm = false from by simp [zv_, ht]] at this
  simp only [Bool.not_true, go_sem, Nat.reduceEqDiff]
  rw [zyb_ hB rfl]
  simp only [go_sem, Nat.reduceEqDiff]
  by_cases hl : gm.rules.length ≤ 16
  rotate_left
  · simp only [show (16 : Int) < gm.rules.length from by omega, decide_true, go_sem, Nat.reduceEqDiff]
    have := hk _ g1
    rwa [show zv_ gm = false from by simp [zv_, hl]] at this
  simp only [show ¬ (16 : Int) < gm.rules.length from by omega, decide_false, go_sem, Nat.reduceEqDiff]
  rw [zyb_ hB rfl]
  simp only [go_sem, Nat.reduceEqDiff]
  have hn' : 1 ≤ gm.nons ∧ gm.nons ≤ 6 := by simpa [inB] using hn
  have ht' : 1 ≤ gm.toks ∧ gm.toks ≤ 4 := by simpa [inB] using ht
  refine ⟨fun f w' => ∃ i : Nat, i ≤ gm.rules.length ∧ f 28 = .int .i64 i ∧ Gr w1 w' ∧ ∀ j, j < i → zfd_ gm.nons gm.toks gm.rules j = true, fun f _ => gm.rules.length - (intOf (f 28)).toNat, ⟨0, Nat.zero_le _, rfl, Gr.refl w1, fun j hj => absurd hj (Nat.not_lt_zero j)⟩, ?_⟩
  rintro f w2 hag ⟨i, hi, h28, g2, hpre⟩
  have f1 : f 1 = .pointer (some ⟨b, 0, none⟩) := hag 1 (by decide)
  have f26 : f 26 = .slice Y gm.rules.length c := hag 26 (by decide)
  have f27 : f 27 = .int .i64 gm.rules.length := hag 27 (by decide)
  simp only [f1, f26, f27, h28, go_sem, Nat.reduceEqDiff]
  by_cases hlt : i < gm.rules.length
  · have hlt' : (i : Int) < gm.rules.length := by omega
    simp only [hlt', decide_true, go_sem, Nat.reduceEqDiff]
    have g := zd_ g1 g2
    rw [zic_ hy.ptr hlt]
    refine zce_ zhc_ sz33 (hy.gr g) hlt fun v hv => ?_
    obtain ⟨Z, d, rfl, hd, hz⟩ := hv
    refine zmb_ zxb_ fun b3 w3 g3 hb3 h3 => ?_
    have n3 := (hB.gr g2).ne hb3
    refine zfb_ sz33 rfl (by intro u hu; simp [Value.cells] at hu; rcases hu with rfl | rfl <;> rfl) h3 (by simp [Value.cells]) fun w4 g4 s4 h4 => ?_
    have hB2 := (hB.gr (zd_ g2 g3)).put g4 n3
    have g' := zpb_ (zd_ g g3) g4 (Nat.le_trans g.size hb3)
    have k0 : zfd_ gm.nons gm.toks gm.rules i = false → ∀ w', Gr w w' → k (.bool false) w' := fun h w' gw => by
      have := hk w' gw
      rwa [show zv_ gm = false from by simp only [zv_, zip_ hlt h, Bool.and_false]] at this
    simp only [go_sem, Nat.reduceEqDiff]
    rw [ldB3 h4 rfl, ldB3 hB2 rfl]
    simp only [go_sem, Nat.reduceEqDiff]
    rw [zt_ (by omega) (by omega)]
    refine zpg_ ?_
    cases hr : inB (rul gm.rules i).1 0 (gm.nons - 1)
    · simp only [Bool.not_false, go_sem, Nat.reduceEqDiff]
      exact k0 (by simp [zfd_, hr]) _ g'
    simp only [Bool.not_true, go_sem, Nat.reduceEqDiff]
    rw [zpe_ h4 rfl]
    simp only [go_sem, Nat.reduceEqDiff]
    by_cases h5 : (rul gm.rules i).2.length ≤ 4
    rotate_left
    · simp only [show (4 : Int) < (rul gm.rules i).2.length from by omega, decide_true, go_sem, Nat.reduceEqDiff]
      exact k0 (by simp [zfd_, h5]) _ g'
    simp only [show ¬ (4 : Int) < (rul gm.rules i).2.length from by omega, decide_false, go_sem, Nat.reduceEqDiff]
    rw [zpe_ h4 rfl]
    simp only [go_sem, Nat.reduceEqDiff]
    refine ⟨fun f' w' => ∃ j : Nat, j ≤ (rul gm.rules i).2.length ∧ f' 49 = .int .i64 j ∧ Gr w4 w' ∧ ∀ l, l < j → symB gm.nons gm.toks ((rul gm.rules i).2.getD l 0) = true, fun f' _ => (rul gm.rules i).2.length - (intOf (f' 49)).toNat, ⟨0, Nat.zero_le _, rfl, Gr.refl w4, fun j hj => absurd hj (Nat.not_lt_zero j)⟩, ?_⟩
    rintro f' w5 hag' ⟨j, hj, h49, g5, hpre'⟩
    have e1 : f' 1 = .pointer (some ⟨b, 0, none⟩) := (hag' 1 (by decide)).trans f1
    have e3 : f' 3 = .int .i64 i := hag' 3 (by decide)
    have e4 : f' 4 = .pointer (some ⟨b3, 0, none⟩) := hag' 4 (by decide)
    have e28 : f' 28 = .int .i64 i := (hag' 28 (by decide)).trans h28
    have e47 : f' 47 = .slice Z (rul gm.rules i).2.length d := hag' 47 (by decide)
    have e48 : f' 48 = .int .i64 (rul gm.rules i).2.length := hag' 48 (by decide)
    have gw5 := zd_ g' g5
    have gw45 : Gr w2 w5 := zd_ (zpb_ g3 g4 hb3) g5
    simp only [e1, e47, e48, h49, go_sem, Nat.reduceEqDiff]
    by_cases hlt2 : j < (rul gm.rules i).2.length
    · have hlt2' : (j : Int) < (rul gm.rules i).2.length := by omega
      simp only [hlt2', decide_true, go_sem, Nat.reduceEqDiff]
      rw [zcc_ hz.is.ptr hlt2, ld3 ((hz.is.gr gw45).cell j hlt2), zj_ zu_ sz26 rfl (hB2.gr g5)]
      refine l1Symbol_c (gm := gm) ⟨Y, c, rfl, hc, hy.gr gw5⟩ hn ht fun w6 g6 => ?_
      simp only [go_sem, Nat.reduceEqDiff]
      cases hs : symB gm.nons gm.toks ((rul gm.rules i).2.getD j 0)
      · simp only [Bool.not_false, go_sem, Nat.reduceEqDiff]
        exact k0 (by simp only [zfd_, zdm_ hlt2 hs, Bool.and_false, Bool.false_and]) _ (zd_ gw5 g6)
      · simp only [Bool.not_true, go_sem, Nat.reduceEqDiff]
        rw [zt_ (by omega) (by omega)]
        refine ⟨⟨j + 1, hlt2, rfl, zd_ g5 g6, fun l hl => ?_⟩, ?_⟩
        · rcases Nat.lt_succ_iff_lt_or_eq.1 hl with h | rfl
          · exact hpre' l h
          · exact hs
        · simp only [intOf]
          omega
    simp only [show ¬ (j : Int) < (rul gm.rules i).2.length from by omega, decide_false, go_sem, Nat.reduceEqDiff]
    have hall : (rul gm.rules i).2.all (symB gm.nons gm.toks) = true := all_of fun l hl => hpre' l (by omega)
    simp only [e1, e3, go_sem, Nat.reduceEqDiff]
    rw [zyb_ (hB2.gr g5) rfl]
    rw [slh24 (by omega) (by omega), sub_zero]
    simp only [Int.toNat_natCast, go_sem, Nat.reduceEqDiff]
    have hti : (gm.rules.take i).length = i := by simp; omega
    have hyt : RulesF F w5 Y (gm.rules.take i) := (hy.gr gw5).take i
    refine ⟨fun f' w' => ∃ j : Nat, j ≤ i ∧ f' 63 = .int .i64 j ∧ Gr w5 w' ∧ ∀ l, l < j → decide (rul gm.rules i = rul gm.rules l) = false, fun f' _ => i - (intOf (f' 63)).toNat, ⟨0, Nat.zero_le _, rfl, Gr.refl w5, fun j hj => absurd hj (Nat.not_lt_zero j)⟩, ?_⟩
    rintro f2 w6 hag2 ⟨m, hm, h63, g6, hpre2⟩
    have d4 : f2 4 = .pointer (some ⟨b3, 0, none⟩) := (hag2 4 (by decide)).trans e4
    have d28 : f2 28 = .int .i64 i := (hag2 28 (by decide)).trans e28
    have d61 : f2 61 = .slice Y i c := hag2 61 (by decide)
    have d62 : f2 62 = .int .i64 i := hag2 62 (by decide)
    have gw6 := zd_ gw5 g6
    simp only [d4, d28, d61, d62, h63, go_sem, Nat.reduceEqDiff]
    by_cases hlt3 : m < i
    · have hlt3' : (m : Int) < i := by omega
      simp only [hlt3', decide_true, go_sem, Nat.reduceEqDiff]
      rw [zic_ (fun _ => hy.ptr (by omega)) hlt3]
      refine zce_ zhc_ sz33 (hy.gr gw6) (show m < gm.rules.length by omega) fun v hv => ?_
      obtain ⟨Z', d', rfl, hd', hz'⟩ := hv
      refine zmb_ zxb_ fun b7 w7 g7 hb7 h7 => ?_
      have h46 := (h4.gr (zd_ g5 g6))
      have n7 := h46.ne hb7
      have h47 := h46.gr g7
      refine zfb_ sz33 rfl (by intro u hu; simp [Value.cells] at hu; rcases hu with rfl | rfl <;> rfl) h7 (by simp [Value.cells]) fun w8 g8 s8 h8 => ?_
      have h48 := h47.put g8 n7
      have gw8 := zpb_ (zd_ gw6 g7) g8 (Nat.le_trans gw6.size hb7)
      have g58 := zpb_ (zd_ g6 g7) g8 (Nat.le_trans g6.size hb7)
      rw [zj_ zhc_ sz33 rfl h48, zj_ zhc_ sz33 rfl h8]
      refine zgh_ (r := rul gm.rules i) (q := rul gm.rules m) (F := F) (E := F) ⟨Z, d, rfl, hd, hz.gr (zd_ gw45 g58)⟩ ⟨Z', d', rfl, hd', hz'.gr (zpb_ g7 g8 hb7)⟩ fun w9 g9 => ?_
      by_cases he : rul gm.rules i = rul gm.rules m
      · simp only [he, decide_true, go_sem, Nat.reduceEqDiff]
        refine k0 ?_ _ (zd_ gw8 g9)
        have : (gm.rules.take i).any (fun q => decide (rul gm.rules i = q)) = true := zfm_ (i := m) (by omega) (by rw [zdk_ hlt3]; exact decide_eq_true he)
        simp only [zfd_, this, Bool.not_true, Bool.and_false]
      · simp only [he, decide_false, go_sem, Nat.reduceEqDiff]
        rw [zt_ (by omega) (by omega)]
        refine ⟨⟨m + 1, hlt3, rfl, zd_ g58 g9, fun l hl => ?_⟩, ?_⟩
        · rcases Nat.lt_succ_iff_lt_or_eq.1 hl with h | rfl
          · exact hpre2 l h
          · exact decide_eq_false he
        · simp only [intOf]
          omega
    · simp only [show ¬ (m : Int) < i from by omega, decide_false, go_sem, Nat.reduceEqDiff]
      rw [zt_ (by omega) (by omega)]
      refine ⟨⟨i + 1, hlt, rfl, zd_ (zd_ g2 gw45) g6, fun l hl => ?_⟩, ?_⟩
      · rcases Nat.lt_succ_iff_lt_or_eq.1 hl with h | rfl
        · exact hpre l h
        · have : (gm.rules.take l).any (fun q => decide (rul gm.rules l = q)) = false := zvi_ fun m' hm' => by
            rw [zdk_ (by omega)]
            exact hpre2 m' (by omega)
          simp only [zfd_, hr, h5, hall, this, decide_true, Bool.not_false, Bool.and_self]
      · simp only [intOf]
        omega
  · simp only [show ¬ (i : Int) < gm.rules.length from by omega, decide_false, go_sem, Nat.reduceEqDiff]
    have := hk _ (zd_ g1 g2)
    rwa [show zv_ gm = true from by simp only [zv_, hn, ht, hl, decide_true, Bool.true_and]; exact zhp_ fun j hj => hpre j (by omega)] at this

def PredR (t : Nat) (fv : Value) (p : RuleL → Bool) (w : World) : Prop := ∀ w1, Gr w w1 → ∀ (E : Nat → Prop) (v : Value) (r : RuleL), RuleV E w1 v r → ∀ (k : Value → World → Prop), (∀ w2, Gr w1 w2 → k (.bool (p r)) w2) → Do Try.prog (zff_ fv [v] t) k w1
theorem zvr_ {F : Nat → Prop} {w : World} {X : Option Addr} {c : Nat} {rs : List RuleL} {fv : Value} {p : RuleL → Bool} (hx : RulesF F w X rs) (hp : PredR 4 fv p w) {k : Value → World → Prop}
    (hk : ∀ (r : Int) w', Gr w w' → decide (0 ≤ r) = rs.any p → k (.int .i64 r) w') :
    CallK Try.prog 305 [.slice X rs.length c, fv] k w := by
  refine enter305 ?_
  unfold S305
  simp only [go_sem, Nat.reduceEqDiff]
  refine ⟨fun f w' => ∃ i : Nat, i ≤ rs.length ∧ f 8 = .int .i64 i ∧ Gr w w' ∧ ∀ j, j < i → p (rul rs j) = false, fun f _ => rs.length - (intOf (f 8)).toNat, ⟨0, Nat.zero_le _, rfl, Gr.refl w, fun j hj => absurd hj (Nat.not_lt_zero j)⟩, ?_⟩
  rintro f w1 hag ⟨i, hi, h8, hg, hpre⟩
  have f0 : f 0 = .slice X rs.length c := hag 0 (by decide)
  have f1 : f 1 = fv := hag 1 (by decide)
  have f7 : f 7 = .int .i64 rs.length := hag 7 (by decide)
  simp only [f0, f1, f7, h8, go_sem, Nat.reduceEqDiff]
  by_cases hlt : i < rs.length
  · have hlt' : (i : Int) < rs.length := by omega
    have := hx.le
    simp only [hlt', decide_true, go_sem, Nat.reduceEqDiff]
    rw [zic_ hx.ptr hlt]
    refine zce_ zhc_ sz33 (hx.gr hg) hlt fun v hv => ?_
    refine hp w1 hg _ _ _ hv _ fun w2 g2 => ?_
    have g2' := zd_ hg g2
    cases hb : p (rul rs i)
    · simp only [go_sem, Nat.reduceEqDiff]
      rw [zt_ (by omega) (by omega)]
      refine ⟨⟨i + 1, hlt, rfl, g2', fun j hj => ?_⟩, ?_⟩
      · rcases Nat.lt_succ_iff_lt_or_eq.1 hj with h | rfl
        · exact hpre j h
        · exact hb
      · simp only [intOf]
        omega
    · simp only [go_sem, Nat.reduceEqDiff]
      refine hk i w2 g2' ?_
      rw [decide_eq_true (by omega), zfm_ hlt hb]
  · simp only [show ¬ (i : Int) < rs.length from by omega, decide_false, go_sem, Nat.reduceEqDiff]
    refine hk (-1) w1 hg ?_
    rw [decide_eq_false (by decide), zvi_ fun j hj => hpre j (by omega)]
theorem zgm_ {F : Nat → Prop} {w : World} {X : Option Addr} {c : Nat} {rs : List RuleL} {fv : Value} {p : RuleL → Bool} (hx : RulesF F w X rs) (hp : PredR 4 fv p w) {k : Value → World → Prop}
    (hk : ∀ w', Gr w w' → k (.bool (rs.any p)) w') : CallK Try.prog 248 [.slice X rs.length c, fv] k w := by
  refine enter248 ?_
  unfold S248
  refine zvr_ hx hp fun r w' g h => ?_
  simp only [go_sem, Nat.reduceEqDiff]
  rw [h]
  exact hk w' g
theorem isSymbol_c {w : World} {s n t : Int} (hn : inB n 1 6 = true) (ht : inB t 1 4 = true) {k : Value → World → Prop} (hk : k (.bool (symB n t s)) w) : CallK Try.prog 253 [.int .i64 s, .int .i64 n, .int .i64 t] k w := by
  have hn' : 1 ≤ n ∧ n ≤ 6 := by simpa [inB] using hn
  have ht' : 1 ≤ t ∧ t ≤ 4 := by simpa [inB] using ht
  refine enter253 ?_
  unfold S253
  simp only [go_sem, Nat.reduceEqDiff]
  rw [zt_ (by omega) (by omega), zt_ (by omega) (by omega)]
  exact in_c hk
theorem zdr_ {w : World} {b b' e e' : Nat} {s n t : Int} (hB : Box w b [.int .i64 n] e) (hB' : Box w b' [.int .i64 t] e') (hn : inB n 1 6 = true) (ht : inB t 1 4 = true) {k : Value → World → Prop} (hk : k (.bool (!symB n t s)) w) :
    CallK Try.prog 252 [.int .i64 s, .pointer (some ⟨b, 0, none⟩), .pointer (some ⟨b', 0, none⟩)] k w := by
  refine enter252 ?_
  unfold S252
  rw [ldB3 hB rfl, ldB3 hB' rfl]
  refine isSymbol_c hn ht ?_
  simp only [go_sem, Nat.reduceEqDiff]
  exact hk
theorem zwr_ {w : World} {X : Option Addr} {c : Nat} {xs : List Int} {n t : Int} (hx : Ints w X xs) (hn : inB n 1 6 = true) (ht : inB t 1 4 = true) {k : Value → World → Prop} (hk : ∀ w', Gr w w' → k (.bool (xs.all (symB n t))) w') :
    CallK Try.prog 154 [.slice X xs.length c, .int .i64 n, .int .i64 t] k w := by
  refine enter154 ?_
  unfold S154
  refine zwb_ fun b w1 g1 hb1 hB => ?_
  refine zwb_ fun b' w2 g2 hb2 hB' => ?_
  have hB := hB.gr g2
  simp only [go_sem, Nat.reduceEqDiff]
  have hp : Pred 4 (.func (.func 252) [].toArray [.pointer (some ⟨b, 0, none⟩), .pointer (some ⟨b', 0, none⟩)].toArray) (fun x => !symB n t x) w2 := fun w3 g3 x k hk =>
    callVc (zdr_ (hB.gr g3) (hB'.gr g3) hn ht (hk w3 (Gr.refl w3)))
  refine zai_ (hx.gr (zd_ g1 g2)) hp fun w3 g3 => ?_
  simp only [go_sem, Nat.reduceEqDiff]
  have := hk w3 (zd_ (zd_ g1 g2) g3)
  rwa [show xs.all (symB n t) = !xs.any (fun x => !symB n t x) from by simp [List.not_any_eq_all_not]] at this
theorem zer_ {w : World} {X Y : Option Addr} {c d : Nat} {xs ys : List Int} (hx : Ints w X xs) (hy : Ints w Y ys) {k : Value → World → Prop} (hk : ∀ w', Gr w w' → k (.bool (decide (xs = ys))) w') :
    CallK Try.prog 180 [.slice X xs.length c, .slice Y ys.length d] k w := by
  refine enter180 ?_
  unfold S180
  simp only [go_sem, Nat.reduceEqDiff]
  by_cases hl : xs.length = ys.length
  rotate_left
  · simp only [Int.ofNat_inj, hl, decide_false, Bool.not_false, go_sem, Nat.reduceEqDiff]
    have := hk _ (Gr.refl w)
    rwa [decide_eq_false (fun e => hl (by rw [e]))] at this
  simp only [Int.ofNat_inj, hl, decide_true, Bool.not_true, go_sem, Nat.reduceEqDiff]
  rw [← hl]
  refine ⟨fun f w' => ∃ i : Nat, i ≤ xs.length ∧ f 13 = .int .i64 i ∧ Gr w w' ∧ xs.take i = ys.take i, fun f _ => xs.length - (intOf (f 13)).toNat, ⟨0, Nat.zero_le _, rfl, Gr.refl w, rfl⟩, ?_⟩
  rintro f w1 hag ⟨i, hi, h13, hg, hpre⟩
  have h0 : f 0 = .slice X xs.length c := hag 0 (by decide)
  have h1 : f 1 = .slice Y xs.length d := hag 1 (by decide)
  have h12 : f 12 = .int .i64 xs.length := hag 12 (by decide)
  simp only [h0, h1, h12, h13, go_sem, Nat.reduceEqDiff]
  by_cases hlt : i < xs.length
  · have hlt' : (i : Int) < xs.length := by omega
    have := hx.le
    simp only [hlt', decide_true, go_sem, Nat.reduceEqDiff]
    rw [zcc_ hx.ptr hlt, ld3 ((hx.gr (zd_ hg (zfc_ w1))).cell i hlt), zcc_ (hl ▸ hy.ptr) hlt, ld3 ((hy.gr (zd_ hg (zfc_ w1))).cell i (by omega))]
    simp only [go_sem, Nat.reduceEqDiff]
    by_cases he : xs.getD i 0 = ys.getD i 0
    · simp only [he, decide_true, Bool.not_true, go_sem, Nat.reduceEqDiff]
      rw [zt_ (by omega) (by omega)]
      refine ⟨⟨i + 1, hlt, rfl, zd_ hg (zfc_ w1), ?_⟩, ?_⟩
      · rw [zhf_ hlt, zhf_ (by omega), hpre, he]
      · simp only [intOf]
        omega
    · simp only [he, decide_false, Bool.not_false, go_sem, Nat.reduceEqDiff]
      have := hk _ (zd_ hg (zfc_ w1))
      rwa [decide_eq_false (fun e => he (by rw [e]))] at this
  · simp only [show ¬ (i : Int) < xs.length from by omega, decide_false, go_sem, Nat.reduceEqDiff]
    have := hk _ hg
    rwa [decide_eq_true] at this
    rwa [List.take_of_length_le (by omega), List.take_of_length_le (by omega)] at hpre
theorem zhm_ {F E : Nat → Prop} {w : World} {v u : Value} {r q : RuleL} (hv : RuleV F w v r) (hu : RuleV E w u q) {k : Value → World → Prop} (hk : ∀ w', Gr w w' → k (.bool (decide (r = q))) w') :
    CallK Try.prog 242 [v, u] k w := by
  obtain ⟨Y, c, rfl, hc, hy⟩ := hv
  obtain ⟨Z, d, rfl, hd, hz⟩ := hu
  refine enter242 ?_
  unfold S242
  refine zwb_ fun b w1 g1 hb1 hb => ?_
  refine zwb_ fun b' w2 g2 hb2 hb' => ?_
  have hb := hb.gr g2
  have g := zd_ g1 g2
  simp only [go_sem, Nat.reduceEqDiff]
  rw [ldB3 hb rfl, ldB3 hb' rfl]
  simp only [go_sem, Nat.reduceEqDiff]
  by_cases h : r.1 = q.1
  · simp only [h, decide_true, go_sem, Nat.reduceEqDiff]
    rw [zpe_ hb rfl]
    rw [zpe_ hb' rfl]
    refine zer_ (hy.is.gr g) (hz.is.gr g) fun w3 g3 => ?_
    have := hk w3 (zd_ g g3)
    by_cases h2 : r.2 = q.2
    · simp only [h2, decide_true, go_sem, Nat.reduceEqDiff]
      rwa [decide_eq_true (Prod.ext h h2)] at this
    · simp only [h2, decide_false, go_sem, Nat.reduceEqDiff]
      rwa [decide_eq_false (fun e => h2 (by rw [e]))] at this
  · simp only [h, decide_false, go_sem, Nat.reduceEqDiff]
    have := hk w2 g
    rwa [decide_eq_false (fun e => h (by rw [e]))] at this
theorem zxr_ {E F : Nat → Prop} {w : World} {v : Value} {q r : RuleL} {Z : Option Addr} {b d e : Nat} (hv : RuleV E w v q) (hB : Box w b [.int .i64 r.1, .slice Z r.2.length d] e) (hz : IntsF F w Z r.2) (hd : r.2.length ≤ d) {k : Value → World → Prop} (hk : ∀ w', Gr w w' → k (.bool (decide (q = r))) w') :
    CallK Try.prog 249 ([v] ++ [.pointer (some ⟨b, 0, none⟩)]) k w := by
  refine enter249 ?_
  unfold S249
  obtain ⟨Y, c, rfl, hc, hy⟩ := hv
  refine zwb_ fun b1 w1 g1 hb1 hB1 => ?_
  rw [zj_ zhc_ sz33 rfl hB1, zj_ zhc_ sz33 rfl (hB.gr g1)]
  exact zhm_ (r := q) (q := r) ⟨Y, c, rfl, hc, hy.gr g1⟩ ⟨Z, d, rfl, hd, hz.gr g1⟩ fun w2 g2 => hk w2 (zd_ g1 g2)
theorem zae_ {F : Nat → Prop} {w : World} {v : Value} {gm : Gram} (hv : GramV F w v gm) {k : Value → World → Prop} (hk : ∀ w', Gr w w' → k (.bool (zv_ gm)) w') :
    CallK Try.prog 148 [v] k w := by
  have hv0 := hv
  obtain ⟨Y, c, rfl, hc, hy⟩ := hv
  refine enter148 ?_
  unfold S148
  refine zwb_ fun b w1 g1 hb1 hB => ?_
  simp only [go_sem, Nat.reduceEqDiff]
  rw [ldB3 hB rfl]
  refine in_c ?_
  cases hn : inB gm.nons 1 6
  · simp only [Bool.not_false, go_sem, Nat.reduceEqDiff]
    have := hk _ g1
    rwa [show zv_ gm = false from by simp [zv_, hn]] at this
  simp only [Bool.not_true, go_sem, Nat.reduceEqDiff]
  rw [ldB3 hB rfl]
  refine in_c ?_
  cases ht : inB gm.toks 1 4
  · simp only [Bool.not_false, go_sem, Nat.reduceEqDiff]
    have := hk _ g1
    rwa [show zv_ gm = false from by simp [zv_, ht]] at this
  simp only [Bool.not_true, go_sem, Nat.reduceEqDiff]
  rw [zyb_ hB rfl]
  simp only [go_sem, Nat.reduceEqDiff]
  by_cases hl : gm.rules.length ≤ 16
  rotate_left
  · simp only [show (16 : Int) < gm.rules.length from by omega, decide_true, go_sem, Nat.reduceEqDiff]
    have := hk _ g1
    rwa [show zv_ gm = false from by simp [zv_, hl]] at this
  simp only [show ¬ (16 : Int) < gm.rules.length from by omega, decide_false, go_sem, Nat.reduceEqDiff]
  rw [zyb_ hB rfl]
  simp only [go_sem, Nat.reduceEqDiff]
  have hn' : 1 ≤ gm.nons ∧ gm.nons ≤ 6 := by simpa [inB] using hn
  have ht' : 1 ≤ gm.toks ∧ gm.toks ≤ 4 := by simpa [inB] using ht
  refine ⟨fun f w' => ∃ i : Nat, i ≤ gm.rules.length ∧ f 24 = .int .i64 i ∧ Gr w1 w' ∧ ∀ j, j < i → zfd_ gm.nons gm.toks gm.rules j = true, fun f _ => gm.rules.length - (intOf (f 24)).toNat, ⟨0, Nat.zero_le _, rfl, Gr.refl w1, fun j hj => absurd hj (Nat.not_lt_zero j)⟩, ?_⟩
  rintro f w2 hag ⟨i, hi, h28, g2, hpre⟩
  have f1 : f 1 = .pointer (some ⟨b, 0, none⟩) := hag 1 (by decide)
  have f26 : f 22 = .slice Y gm.rules.length c := hag 22 (by decide)
  have f27 : f 23 = .int .i64 gm.rules.length := hag 23 (by decide)
  simp only [f1, f26, f27, h28, go_sem, Nat.reduceEqDiff]
  by_cases hlt : i < gm.rules.length
  · have hlt' : (i : Int) < gm.rules.length := by omega
    simp only [hlt', decide_true, go_sem, Nat.reduceEqDiff]
    have g := zd_ g1 g2
    rw [zic_ hy.ptr hlt]
    refine zce_ zhc_ sz33 (hy.gr g) hlt fun v hv => ?_
    obtain ⟨Z, d, rfl, hd, hz⟩ := hv
    refine zmb_ zxb_ fun b3 w3 g3 hb3 h3 => ?_
    have n3 := (hB.gr g2).ne hb3
    refine zfb_ sz33 rfl (by intro u hu; simp [Value.cells] at hu; rcases hu with rfl | rfl <;> rfl) h3 (by simp [Value.cells]) fun w4 g4 s4 h4 => ?_
    have hB2 := (hB.gr (zd_ g2 g3)).put g4 n3
    have g' := zpb_ (zd_ g g3) g4 (Nat.le_trans g.size hb3)
    have k0 : zfd_ gm.nons gm.toks gm.rules i = false → ∀ w', Gr w w' → k (.bool false) w' := fun h w' gw => by
      have := hk w' gw
      rwa [show zv_ gm = false from by simp only [zv_, zip_ hlt h, Bool.and_false]] at this
    simp only [go_sem, Nat.reduceEqDiff]
    rw [ldB3 h4 rfl, ldB3 hB2 rfl]
    simp only [go_sem, Nat.reduceEqDiff]
    rw [zt_ (by omega) (by omega)]
    refine in_c ?_
    cases hr : inB (rul gm.rules i).1 0 (gm.nons - 1)
    · simp only [Bool.not_false, go_sem, Nat.reduceEqDiff]
      exact k0 (by simp [zfd_, hr]) _ g'
    simp only [Bool.not_true, go_sem, Nat.reduceEqDiff]
    rw [zpe_ h4 rfl]
    simp only [go_sem, Nat.reduceEqDiff]
    by_cases h5 : (rul gm.rules i).2.length ≤ 4
    rotate_left
    · simp only [show (4 : Int) < (rul gm.rules i).2.length from by omega, decide_true, go_sem, Nat.reduceEqDiff]
      exact k0 (by simp [zfd_, h5]) _ g'
    simp only [show ¬ (4 : Int) < (rul gm.rules i).2.length from by omega, decide_false, go_sem, Nat.reduceEqDiff]
    rw [zpe_ h4 rfl]
    rw [ldB3 hB2 rfl]
    rw [ldB3 hB2 rfl]
    have g24 := zpb_ g3 g4 hb3
    refine zwr_ (hz.is.gr g24) hn ht fun w5 g5 => ?_
    simp only [go_sem, Nat.reduceEqDiff]
    cases hs : (rul gm.rules i).2.all (symB gm.nons gm.toks)
    · simp only [Bool.not_false, go_sem, Nat.reduceEqDiff]
      exact k0 (by simp only [zfd_, hs, Bool.and_false, Bool.false_and]) _ (zd_ g' g5)
    simp only [Bool.not_true, go_sem, Nat.reduceEqDiff]
    have gw5 := zd_ g' g5
    rw [zyb_ (hB2.gr g5) rfl]
    rw [slh24 (by omega) (by omega), sub_zero]
    simp only [Int.toNat_natCast, go_sem, Nat.reduceEqDiff]
    have hti : (gm.rules.take i).length = i := by simp; omega
    have hyt : RulesF F w5 Y (gm.rules.take i) := (hy.gr gw5).take i
    have hp : PredR 4 (.func (.func 249) [].toArray [.pointer (some ⟨b3, 0, none⟩)].toArray) (fun q => decide (q = rul gm.rules i)) w5 := fun w6 g6 E v q hv k hk =>
      callVc (zxr_ hv (h4.gr (zd_ g5 g6)) (hz.gr (zd_ g24 (zd_ g5 g6))) hd hk)
    have hcf := zgm_ (c := c) hyt hp (k := ?k)
    rw [hti] at hcf
    refine hcf ?_
    intro w6 g6
    have e : (gm.rules.take i).any (fun q => decide (q = rul gm.rules i)) = (gm.rules.take i).any (fun q => decide (rul gm.rules i = q)) := by
      congr 1
      funext q
      exact decide_eq_decide.2 ⟨fun h => h.symm, fun h => h.symm⟩
    rw [e]
    cases ha : (gm.rules.take i).any (fun q => decide (rul gm.rules i = q))
    · simp only [go_sem, Nat.reduceEqDiff]
      have d28 : f 24 = .int .i64 i := h28
      rw [zt_ (by omega) (by omega)]
      refine ⟨⟨i + 1, hlt, rfl, zd_ (zd_ g2 g24) (zd_ g5 g6), fun l hl => ?_⟩, ?_⟩
      · rcases Nat.lt_succ_iff_lt_or_eq.1 hl with h | rfl
        · exact hpre l h
        · simp only [zfd_, hr, h5, hs, ha, decide_true, Bool.not_false, Bool.and_self]
      · simp only [intOf]
        omega
    · simp only [go_sem, Nat.reduceEqDiff]
      exact k0 (by simp only [zfd_, ha, Bool.not_true, Bool.and_false]) _ (zd_ gw5 g6)
  · simp only [show ¬ (i : Int) < gm.rules.length from by omega, decide_false, go_sem, Nat.reduceEqDiff]
    have := hk _ (zd_ g1 g2)
    rwa [show zv_ gm = true from by simp only [zv_, hn, ht, hl, decide_true, Bool.true_and]; exact zhp_ fun j hj => hpre j (by omega)] at this
end Go.Proofs.Ytegcjkhebecgbaa

namespace Go.Sh
open Go
theorem zbj_ {rs : List RuleL} {j : Nat} {p : RuleL → RuleL} (h : j < rs.length) : rul (rs.map p) j = p (rul rs j) := by
  rw [zpc_ (by simpa using h), zpc_ h]
  simp
end Go.Sh
namespace Go.Proofs.Ytegcjkhebecgbaa
open Go Go.Sh Go.RowKit

end Go.Proofs.Ytegcjkhebecgbaa

namespace Go.Sh
open Go
def gmn (gs : List Gram) (j : Nat) : Gram := gs.getD j ⟨0, 0, []⟩
structure GramsF (F : Nat → Prop) (w : World) (X : Option Addr) (gs : List Gram) : Prop where
  le : gs.length ≤ 9223372036854775807
  ptr : 0 < gs.length → X = some (ad X)
  foot : 0 < gs.length → F (ad X).block
  row : ∀ j, j < gs.length → ∃ Y c, w.cell? ((ad X).add (j * 3)) = some (.int .i64 (gmn gs j).nons) ∧ w.cell? ((ad X).add (j * 3 + 1)) = some (.int .i64 (gmn gs j).toks) ∧ w.cell? ((ad X).add (j * 3 + 2)) = some (.slice Y (gmn gs j).rules.length c) ∧ (gmn gs j).rules.length ≤ c ∧ RulesF F w Y (gmn gs j).rules
theorem GramsF.gx {F D : Nat → Prop} {w w' : World} {X : Option Addr} {gs : List Gram} (h : GramsF F w X gs) (g : Gx D w w') (hn : ∀ b, F b → ¬ D b) : GramsF F w' X gs := by
  refine ⟨h.le, h.ptr, h.foot, fun j hj => ?_⟩
  obtain ⟨Y, c, h1, h2, h3, h4, h5⟩ := h.row j hj
  have hf := hn _ (h.foot (by omega))
  exact ⟨Y, c, g.cell h1 (by rw [zhd_]; exact hf), g.cell h2 (by rw [zhd_]; exact hf), g.cell h3 (by rw [zhd_]; exact hf), h4, h5.gx g hn⟩
theorem zyc_ {g : Gram} (hg : zv_ g = true) : g.rules.length ≤ 16 := by
  simp only [zv_, Bool.and_eq_true, decide_eq_true_eq] at hg
  exact hg.1.2
def From (w : World) (X0 X : Option Addr) : Prop := ∀ q, blk X = some q → q < w.heap.size → blk X0 = some q
theorem From.moved {w w2 : World} {X0 X X' : Option Addr} (h : From w X0 X) (hm : Moved w2 X X') (hs : w.heap.size ≤ w2.heap.size) : From w X0 X' := by
  intro q hq hlt
  rcases hm with e | e
  · exact h q (e ▸ hq) hlt
  · have := e q hq
    omega
abbrev zeroGram : Value := .agg #[.int .i64 0, .int .i64 0, .slice none 0 0]
end Go.Sh
namespace Go.Proofs.Ytegcjkhebecgbaa
open Go Go.Sh Go.RowKit

end Go.Proofs.Ytegcjkhebecgbaa

namespace Go.Sh
open Go
def GramR (w : World) (B : Nat) (v : Value) : Option Gram → Prop
  | some m => GramO w B v m
  | none => v = zeroGram
theorem GramR.put {w w' : World} {B b t : Nat} {v : Value} {o : Option Gram} {cs : List Value} (h : GramR w B v o) (hb : Box w b cs t) (h1 : 33 ≠ t) (h2 : 3 ≠ t) (g : w.grownBy w' (some b)) : GramR w' B v o := by
  cases o with
  | none => exact h
  | some m =>
    obtain ⟨X, c, ps, e, ho⟩ := h
    exact ⟨X, c, ps, e, ho.put hb h1 h2 g⟩
theorem GramR.three {w : World} {B : Nat} {v : Value} {o : Option Gram} (h : GramR w B v o) : ∃ x y z, v = .agg #[x, y, z] ∧ x.oneCell' = true ∧ y.oneCell' = true ∧ z.oneCell' = true := by
  cases o with
  | none => exact ⟨_, _, _, h, rfl, rfl, rfl⟩
  | some m =>
    obtain ⟨X, c, ps, e, ho⟩ := h
    exact ⟨_, _, _, e, rfl, rfl, rfl⟩
end Go.Sh
namespace Go.Proofs.Ytegcjkhebecgbaa
open Go Go.Sh Go.RowKit

end Go.Proofs.Ytegcjkhebecgbaa

namespace Go.Sh
open Go
theorem zid_ {g : Gram} (hg : zv_ g = true) : ∀ i, i < g.rules.length → (rul g.rules i).2.length ≤ 4 := fun i hi => by
  simp only [zv_, Bool.and_eq_true, List.all_eq_true] at hg
  have := hg.2 i (List.mem_range.2 hi)
  simp only [zfd_, Bool.and_eq_true, decide_eq_true_eq] at this
  exact this.1.1.2
end Go.Sh
namespace Go.Proofs.Ytegcjkhebecgbaa
open Go Go.Sh Go.RowKit

theorem zvg_ {F : Nat → Prop} {w : World} {v : Value} {gm : Gram} (hv : GramV F w v gm) (hg : zv_ gm = true) {k : Value → World → Prop}
    (hk : ∀ v w', Gr w w' → GramO w' w.heap.size v gm → k v w') : CallK Try.prog 234 [v] k w := by
  obtain ⟨Y, c, rfl, hc, hy⟩ := hv
  have hgl := zyc_ hg
  have hgr := zid_ hg
  refine enter234 ?_
  unfold S234
  refine zwb_ fun b1 w1 g1 hb1 h1 => ?_
  refine zmb_ zdc_ fun b3 w2 g2 hb3 h3 => ?_
  have n3 := h1.ne hb3
  have h1 := h1.gr g2
  have q3 := Nat.le_trans g1.size hb3
  simp only [go_sem, Nat.reduceEqDiff]
  rw [ldB3 h1 rfl, ldB3 h1 rfl]
  rw [bd26 (cells := #[.int .i64 gm.nons, .int .i64 gm.toks, .slice none 0 0]) rfl]
  refine zmb_ zdc_ fun b4 w4 g4 hb4 h4 => ?_
  have n4 := h3.ne hb4
  have n14 := h1.ne hb4
  have q4 := Nat.le_trans (zd_ g1 g2).size hb4
  refine zfb_ sz26 rfl (by intro u hu; simp [Value.cells] at hu; rcases hu with rfl | rfl | rfl <;> rfl) h4 (by simp [Value.cells]) fun w5 g5 s5 h4 => ?_
  have h1 := (h1.gr g4).put g5 n14
  have h3 := (h3.gr g4).put g5 n4
  have g := zpb_ (zd_ (zd_ g1 g2) g4) g5 q4
  rw [zyb_ h1 rfl]
  simp only [go_sem, Nat.reduceEqDiff]
  refine ⟨fun f w' => ∃ (i : Nat) (X : Option Addr) (e : Nat) (ps : Nat → Option Addr × Nat), i ≤ gm.rules.length ∧ f 14 = .int .i64 i ∧ Gr w w' ∧ Box w' b3 [.int .i64 0, .int .i64 0, .slice none 0 0] 26 ∧ Box w' b4 [.int .i64 gm.nons, .int .i64 gm.toks, .slice X i e] 26 ∧ OwnR 33 3 w' w.heap.size X e (gm.rules.take i) ps, fun f _ => gm.rules.length - (intOf (f 14)).toNat,
    ⟨0, none, 0, fun _ => (none, 0), Nat.zero_le _, rfl, g, h3, h4, ⟨[], Row.nil _ _ _ _, fun j hj => by simp at hj⟩, fun j hj => by simp at hj, fun i j hi => by simp at hi⟩, ?_⟩
  rintro f w6 hag ⟨i, X, e, ps, hi, h14, g6, hb3', hb4', o6⟩
  have f2 : f 2 = .pointer (some ⟨b3, 0, none⟩) := hag 2 (by decide)
  have f3 : f 3 = .pointer (some ⟨b4, 0, none⟩) := hag 3 (by decide)
  have f12 : f 12 = .slice Y gm.rules.length c := hag 12 (by decide)
  have f13 : f 13 = .int .i64 gm.rules.length := hag 13 (by decide)
  have hlen : (gm.rules.take i).length = i := by simp; omega
  simp only [f2, f3, f12, f13, h14, go_sem, Nat.reduceEqDiff]
  by_cases hlt : i < gm.rules.length
  rotate_left
  · simp only [show ¬ (i : Int) < gm.rules.length from by omega, decide_false, go_sem, Nat.reduceEqDiff]
    obtain rfl : i = gm.rules.length := by omega
    rw [List.take_length] at o6
    rw [zj_ zu_ sz26 rfl hb4']
    refine zfb_ sz26 rfl (by intro u hu; simp [Value.cells] at hu; rcases hu with rfl | rfl | rfl <;> rfl) hb3' (by simp [Value.cells]) fun w7 g7 s7 h7 => ?_
    rw [zcb_, zj_ zu_ sz26 rfl h7]
    exact hk _ w7 (zpb_ g6 g7 q3) ⟨X, e, ps, rfl, o6.put hb3' (by decide) (by decide) g7⟩
  have hlt' : (i : Int) < gm.rules.length := by omega
  simp only [hlt', decide_true, go_sem, Nat.reduceEqDiff]
  rw [zic_ hy.ptr hlt]
  refine zce_ zhc_ sz33 (hy.gr g6) hlt fun v hv => ?_
  obtain ⟨Z, z, rfl, hz0, hz⟩ := hv
  have hz4 := hgr i hlt
  refine zmb_ zxb_ fun b7 w7 g7 hb7 h7 => ?_
  refine zfb_ sz33 rfl (by intro u hu; simp [Value.cells] at hu; rcases hu with rfl | rfl <;> rfl) h7 (by simp [Value.cells]) fun w8 g8 s8 h8 => ?_
  have g68 := zpb_ g7 g8 hb7
  have gd := zfc_ w8
  have g6d := zd_ g68 gd
  refine ⟨fun w' => Gr w8.drew w', Gr.refl _, ?_⟩
  simp only [go_sem, Nat.reduceEqDiff]
  rw [ldS24 (fun w' hw' => ((hb4'.gr g6d).gr hw').cell 2), ldS3 (fun w' hw' => ((h8.gr gd).gr hw').cell 0), ldS27 (fun w' hw' => ((h8.gr gd).gr hw').cell 1)]
  refine bs27 [] (by decide) (by simp [Instr.fill, madeCells]) rfl fun b9 w9 hb9 hb9' g9 hbox9 hrow9 => ?_
  refine ⟨g9, ?_⟩
  refine apI (xs := []) (B := w8.drew.heap.size) (hrow9 _ (Nat.le_refl _)) (hz.is.gr (zd_ g6d g9)) rfl rfl (by simp; omega) g9.size fun U u w10 o10 g10 => ?_
  rw [List.nil_append] at o10 ⊢
  have gd10 : Gr w8.drew w10 := zpb_ g9 g10 hb9
  refine ⟨gd10, ?_⟩
  rw [bd33 (cells := #[.int .i64 (rul gm.rules i).1, .slice U (rul gm.rules i).2.length u]) rfl]
  refine bs24 [.int .i64 (rul gm.rules i).1, .slice U (rul gm.rules i).2.length u] (by decide) (by simp [Instr.fill, madeCells, Value.cells, rng2]) rfl fun b11 w11 hb11 hb11' g11 hbox11 hrow11 => ?_
  have gd11 := zd_ gd10 g11
  refine ⟨gd11, ?_⟩
  have g611 := zd_ g6d gd11
  have gw11 := zd_ g6 g611
  have hN : RCells [.int .i64 (rul gm.rules i).1, .slice U (rul gm.rules i).2.length u] [rul gm.rules i] (fun _ => (U, u)) := ⟨rfl, fun j hj => by
    obtain rfl : j = 0 := by simpa using hj
    exact ⟨rfl, rfl⟩⟩
  have hX4 : blk X ≠ some b4 ∧ blk X ≠ some b3 := by
    obtain ⟨cells, hr, _⟩ := (o6.gr g611).cells
    exact ⟨zrc_ (hb4'.gr g611) hr (by decide), zrc_ (hb3'.gr g611) hr (by decide)⟩
  refine zjh_ (ps := ps) (rs := gm.rules.take i) (qs := [rul gm.rules i]) u24 zxb_ rfl (by decide) hlen.symm rfl (o6.gr g611) (Row.src (hrow11 _ (Nat.le_refl _))) hN (fun j hj => ?_) (fun i j hi hj hij => ?_) (fun i' j hi' hj => ?_) (by rw [hlen]; simp; omega) (by rw [hlen]; simp; omega) gw11.size fun X' c' w12 g12 o12 _ => ?_
  · obtain rfl : j = 0 := by simpa using hj
    exact Row.mono (Row.gr o10 g11) (zd_ g6 g6d).size
  · simp at hi hj
    omega
  · exact blk_ne (fun q hq => (Row.ge (o6.own i' hi') hq).2) (fun q hq => (Row.ge o10 hq).1) g6d.size
  have hb412 := (hb4'.gr g611).kept g12 hX4.1
  have hb312 := (hb3'.gr g611).kept g12 hX4.2
  refine zfb_ sz24 rfl (by intro u hu; simp [Value.cells] at hu; subst hu; rfl) hb412 (by simp [Value.cells]) fun w13 g13 s13 hb413 => ?_
  have gw12 : Gr w w12 := zaf_ gw11 g12 fun q hq => by
    obtain ⟨cells, hr, _⟩ := o6.row
    exact (Row.ge hr hq).1
  rw [zt_ (by omega) (by omega)]
  refine ⟨⟨i + 1, X', c', _, hlt, rfl, zpb_ gw12 g13 q4, hb312.put g13 n4, by simpa [Value.cells] using hb413, by
    rw [zck_ hlt]
    exact o12.put hb412 (by decide) (by decide) g13⟩, ?_⟩
  simp only [intOf]
  omega
end Go.Proofs.Ytegcjkhebecgbaa

namespace Go.Sh
open Go
def rgt (rl : List (List Int)) (j : Nat) : List Int := rl.getD j []
structure Intss (w : World) (X : Option Addr) (rl : List (List Int)) : Prop where
  le : rl.length ≤ 9223372036854775807
  ptr : 0 < rl.length → X = some (ad X)
  row : ∀ j, j < rl.length → ∃ Y c, w.cell? ((ad X).add j) = some (.slice Y (rgt rl j).length c) ∧ (rgt rl j).length ≤ c ∧ Ints w Y (rgt rl j)
theorem Intss.gr {w w' : World} {X : Option Addr} {rl : List (List Int)} (h : Intss w X rl) (g : Gr w w') : Intss w' X rl := ⟨h.le, h.ptr, fun j hj => by
  obtain ⟨Y, c, h1, h2, h3⟩ := h.row j hj
  exact ⟨Y, c, g.cell h1, h2, h3.gr g⟩⟩
theorem OwnR.congr {e1 e2 : Nat} {w : World} {B c : Nat} {X : Option Addr} {rs : List RuleL} {ps qs : Nat → Option Addr × Nat} (h : OwnR e1 e2 w B X c rs ps) (he : ∀ j, j < rs.length → qs j = ps j) : OwnR e1 e2 w B X c rs qs := by
  obtain ⟨⟨cells, hr, hc⟩, ho, ht⟩ := h
  refine ⟨⟨cells, hr, fun j hj => by rw [he j hj]; exact hc j hj⟩, fun j hj => by rw [he j hj]; exact ho j hj, fun i j hi hj hij => ?_⟩
  rw [he i hi, he j hj]
  exact ht i j hi hj hij
theorem getD_map {xs : List Int} {i : Nat} {p : Int → Int} (h : i < xs.length) : (xs.map p).getD i 0 = p (xs.getD i 0) := by
  simp [List.getD_eq_getElem?_getD, h]
theorem blk_sym {U V : Option Addr} (h : blk U = none ∨ blk U ≠ blk V) : blk V = none ∨ blk V ≠ blk U := by
  cases hq : blk V with
  | none => exact .inl rfl
  | some q =>
    refine .inr fun e => ?_
    rcases h with h | h
    · rw [h] at e; cases e
    · exact h (by rw [hq, e])
end Go.Sh
namespace Go.Proofs.Ytegcjkhebecgbaa
open Go Go.Sh Go.RowKit

end Go.Proofs.Ytegcjkhebecgbaa

namespace Go.Sh
open Go
def emp : Thing := ⟨fun _ => True, fun _ => False⟩
theorem Apt.join {w0 w w' : World} {L : List Thing} (H : Apt w0 w L) {i j : Nat} {a b it : Thing} (hij : i ≠ j) (hi : L[i]? = some a) (hj : L[j]? = some b) (g : Gx (fun q => a.ft q ∨ b.ft q) w w') (lo : ∀ q, it.ft q → a.ft q ∨ b.ft q ∨ w.heap.size ≤ q) (hh : ∀ q, it.ft q → q < w'.heap.size)
    (kept : ∀ w'', (∀ q, it.ft q → w''.heap[q]? = w'.heap[q]?) → it.P w'') : Apt w0 w' ((L.set i it).set j emp) := by
  have ha := H.ok i a hi
  have hb := H.ok j b hj
  have hsz := H.gr.size
  have sub : ∀ l x, ((L.set i it).set j emp)[l]? = some x → (l = j ∧ x = emp) ∨ (l = i ∧ l ≠ j ∧ x = it) ∨ (l ≠ i ∧ l ≠ j ∧ L[l]? = some x) := fun l x hx => by
    rcases zwh_ hx with h | ⟨h1, h2⟩
    · exact .inl h
    · rcases zwh_ h2 with ⟨h3, h4⟩ | ⟨h3, h4⟩
      · exact .inr (.inl ⟨h3, h1, h4⟩)
      · exact .inr (.inr ⟨h3, h1, h4⟩)
  refine ⟨Gx.gr_after H.gr g fun q hq => hq.elim (ha.lo q) (hb.lo q), fun l x hx => ?_, fun l m x y hlm hx hy q hq hq' => ?_⟩
  · rcases sub l x hx with ⟨_, rfl⟩ | ⟨_, _, rfl⟩ | ⟨h1, h2, h3⟩
    · exact ⟨fun q hq => hq.elim, fun q hq => hq.elim, fun _ _ => trivial⟩
    · refine ⟨fun q hq => ?_, hh, kept⟩
      rcases lo q hq with h | h | h
      · exact ha.lo q h
      · exact hb.lo q h
      · omega
    · have := H.ok l x h3
      exact this.step g.size fun q hq => g.block q (this.hi q hq) fun hq' => hq'.elim (H.two l i x a h1 h3 hi q hq) (H.two l j x b h2 h3 hj q hq)
  · rcases sub l x hx with ⟨_, rfl⟩ | ⟨hli, _, rfl⟩ | ⟨h1, h2, h3⟩
    · exact hq
    · rcases sub m y hy with ⟨_, rfl⟩ | ⟨hmi, _, rfl⟩ | ⟨g1, g2, g3⟩
      · exact hq'
      · exact hlm (hli.trans hmi.symm)
      · rcases lo q hq with h | h | h
        · exact H.two i m a y (fun e => g1 e.symm) hi g3 q h hq'
        · exact H.two j m b y (fun e => g2 e.symm) hj g3 q h hq'
        · have := (H.ok m y g3).hi q hq'
          omega
    · rcases sub m y hy with ⟨_, rfl⟩ | ⟨hmi, _, rfl⟩ | ⟨g1, g2, g3⟩
      · exact hq'
      · rcases lo q hq' with h | h | h
        · exact H.two l i x a h1 h3 hi q hq h
        · exact H.two l j x b h2 h3 hj q hq h
        · have := (H.ok l x h3).hi q hq
          omega
      · exact H.two l m x y hlm h3 g3 q hq hq'
structure OwnSS (e1 e2 : Nat) (w : World) (B : Nat) (X : Option Addr) (c : Nat) (ls : List (List Int)) (ps : Nat → Option Addr × Nat) : Prop where
  row : ∃ cells, Row w B e1 1 X ls.length c cells ∧ ∀ j, j < ls.length → cells[j]? = some (.slice (ps j).1 (rgt ls j).length (ps j).2)
  own : ∀ j, j < ls.length → Own e2 w B (ps j).1 (ps j).2 (rgt ls j)
  two : ∀ i j, i < ls.length → j < ls.length → i ≠ j → blk (ps i).1 = none ∨ blk (ps i).1 ≠ blk (ps j).1
theorem OwnSS.same {e1 e2 : Nat} {w w' : World} {B : Nat} {X : Option Addr} {c : Nat} {ls : List (List Int)} {ps : Nat → Option Addr × Nat} (h : OwnSS e1 e2 w B X c ls ps) (hs : ∀ q, Foot X ps ls.length q → w'.heap[q]? = w.heap[q]?) : OwnSS e1 e2 w' B X c ls ps := by
  obtain ⟨⟨cells, hr, hc⟩, ho, ht⟩ := h
  exact ⟨⟨cells, hr.same fun q hq => hs q (.inl hq), hc⟩, fun j hj => Row.same (ho j hj) fun q hq => hs q (.inr ⟨j, hj, hq⟩), ht⟩
theorem OwnSS.up {e1 e2 : Nat} {w : World} {B B' : Nat} {X : Option Addr} {c : Nat} {ls : List (List Int)} {ps : Nat → Option Addr × Nat} (h : OwnSS e1 e2 w B X c ls ps) (hs : ∀ q, Foot X ps ls.length q → B' ≤ q) : OwnSS e1 e2 w B' X c ls ps := by
  obtain ⟨⟨cells, hr, hc⟩, ho, ht⟩ := h
  exact ⟨⟨cells, hr.up fun q hq => hs q (.inl hq), hc⟩, fun j hj => Row.up (ho j hj) fun q hq => hs q (.inr ⟨j, hj, hq⟩), ht⟩
theorem OwnSS.mono {e1 e2 : Nat} {w : World} {B B' : Nat} {X : Option Addr} {c : Nat} {ls : List (List Int)} {ps : Nat → Option Addr × Nat} (h : OwnSS e1 e2 w B X c ls ps) (hb : B' ≤ B) : OwnSS e1 e2 w B' X c ls ps := by
  obtain ⟨⟨cells, hr, hc⟩, ho, ht⟩ := h
  exact ⟨⟨cells, Row.mono hr hb, hc⟩, fun j hj => Row.mono (ho j hj) hb, ht⟩
theorem OwnSS.foot {e1 e2 : Nat} {w : World} {B c : Nat} {X : Option Addr} {ls : List (List Int)} {ps : Nat → Option Addr × Nat} (h : OwnSS e1 e2 w B X c ls ps) {q : Nat} (hq : Foot X ps ls.length q) : B ≤ q ∧ q < w.heap.size := by
  obtain ⟨⟨cells, hr, hc⟩, ho, ht⟩ := h
  rcases hq with hq | ⟨l, hl, hq⟩
  · exact hr.ge hq
  · exact Row.ge (ho l hl) hq
theorem OwnSS.gr {e1 e2 : Nat} {w w' : World} {B : Nat} {X : Option Addr} {c : Nat} {ls : List (List Int)} {ps : Nat → Option Addr × Nat} (h : OwnSS e1 e2 w B X c ls ps) (g : Gr w w') : OwnSS e1 e2 w' B X c ls ps := h.same fun q hq => g.block q (h.foot hq).2 (by simp)
theorem OwnSS.read {e1 e2 : Nat} {w : World} {B : Nat} {X : Option Addr} {c : Nat} {ls : List (List Int)} {ps : Nat → Option Addr × Nat} (h : OwnSS e1 e2 w B X c ls ps) : Intss w X ls := by
  obtain ⟨⟨cells, hr, hc⟩, ho, ht⟩ := h
  have hcap := hr.cap
  refine ⟨by omega, fun hp => hr.ptr hp, fun j hj => ?_⟩
  have hc' := Row.cap (ho j hj)
  exact ⟨(ps j).1, (ps j).2, hr.src.cell _ _ (hc j hj), by omega, Own.ints (ho j hj)⟩
def lssi (e1 e2 : Nat) (X : Option Addr) (c : Nat) (ls : List (List Int)) (ps : Nat → Option Addr × Nat) : Thing := ⟨fun w => OwnSS e1 e2 w 0 X c ls ps, Foot X ps ls.length⟩
theorem zkh_ {w : World} {B e1 e2 c : Nat} {X : Option Addr} {ls : List (List Int)} {ps : Nat → Option Addr × Nat} (h : OwnSS e1 e2 w B X c ls ps) : ∀ w', (∀ q, (lssi e1 e2 X c ls ps).ft q → w'.heap[q]? = w.heap[q]?) → (lssi e1 e2 X c ls ps).P w' := fun w' hq => (h.mono (Nat.zero_le B)).same hq
theorem Apt.lssi {w0 w : World} {L : List Thing} (H : Apt w0 w L) (i : Nat) {e1 e2 c : Nat} {X : Option Addr} {ls : List (List Int)} {ps : Nat → Option Addr × Nat} (hi : L[i]? = some (lssi e1 e2 X c ls ps)) : OwnSS e1 e2 w w0.heap.size X c ls ps := OwnSS.up (H.get i hi) (H.ok i _ hi).lo
theorem Apt.addLss {w0 w w' : World} {L : List Thing} (H : Apt w0 w L) (g : Gr w w') {e1 e2 c : Nat} {X : Option Addr} {ls : List (List Int)} {ps : Nat → Option Addr × Nat} (h : OwnSS e1 e2 w' w.heap.size X c ls ps) : Apt w0 w' (L ++ [Sh.lssi e1 e2 X c ls ps]) := H.add g _ (fun q hq => (h.foot hq).1) (fun q hq => (h.foot hq).2) (zkh_ h)
theorem OwnSS.nil (w : World) (B e1 e2 : Nat) (ps : Nat → Option Addr × Nat) : OwnSS e1 e2 w B none 0 [] ps := ⟨⟨[], Row.nil _ _ _ _, fun j hj => by simp at hj⟩, fun j hj => by simp at hj, fun i j hi => by simp at hi⟩
theorem zei_ {ls ms : List (List Int)} {i : Nat} (h : i < ls.length) : rgt (ls ++ ms) i = rgt ls i := by
  simp [rgt, List.getD_eq_getElem?_getD, List.getElem?_append_left h]
theorem rgt_last {ls : List (List Int)} {y : List Int} : rgt (ls ++ [y]) ls.length = y := by
  simp [rgt, List.getD_eq_getElem?_getD]
theorem rgt_eq {ls : List (List Int)} {i : Nat} (h : i < ls.length) : rgt ls i = ls[i] := by simp [rgt, List.getD_eq_getElem?_getD, h]
theorem zfe_ {ls : List (List Int)} {i : Nat} (h : i < ls.length) : ls.take (i + 1) = ls.take i ++ [rgt ls i] := by
  rw [List.take_succ_eq_append_getElem h, rgt_eq h]
theorem OwnSS.push {e1 e2 : Nat} {w w' : World} {B B' c d c' : Nat} {X X' Y : Option Addr} {ls : List (List Int)} {ys : List Int} {ps : Nat → Option Addr × Nat} {cells : List Value} (h : OwnSS e1 e2 w B X c ls ps) (ho : Own e2 w B' Y d ys) (hne : ∀ l, l < ls.length → blk (ps l).1 = none ∨ blk (ps l).1 ≠ blk Y) (he : e1 ≠ e2)
    (hr0 : Row w B e1 1 X ls.length c cells) (hc : ∀ j, j < ls.length → cells[j]? = some (.slice (ps j).1 (rgt ls j).length (ps j).2)) (hr : Row w' B e1 1 X' (ls.length + 1) c' (cells ++ [.slice Y ys.length d])) (g : w.grownBy w' (blk X)) : OwnSS e1 e2 w' 0 X' c' (ls ++ [ys]) (fun i => if i = ls.length then (Y, d) else ps i) := by
  have hlen := hr0.len
  refine ⟨⟨_, by rw [List.length_append]; exact Row.mono hr (Nat.zero_le _), fun j hj => ?_⟩, fun j hj => ?_, fun i j hi hj hij => ?_⟩
  · by_cases hlt : j < ls.length
    · rw [List.getElem?_append_left (by omega), hc j hlt, zei_ hlt, if_neg (by omega)]
    · obtain rfl : j = ls.length := by simp at hj; omega
      rw [List.getElem?_append_right (by omega), rgt_last, if_pos rfl, hlen]
      simp
  · by_cases hlt : j < ls.length
    · rw [if_neg (by omega), zei_ hlt]
      exact Row.mono (Row.kept (h.own j hlt) g (zue_ (h.own j hlt) hr0 fun e => he e.symm)) (Nat.zero_le _)
    · obtain rfl : j = ls.length := by simp at hj; omega
      rw [if_pos rfl, rgt_last]
      exact Row.mono (Row.kept ho g (zue_ ho hr0 fun e => he e.symm)) (Nat.zero_le _)
  · rw [List.length_append] at hi hj
    simp only [List.length_cons, List.length_nil] at hi hj
    by_cases h1 : i < ls.length <;> by_cases h2 : j < ls.length
    · rw [if_neg (by omega), if_neg (by omega)]
      exact h.two i j h1 h2 hij
    · obtain rfl : j = ls.length := by omega
      rw [if_neg (by omega), if_pos rfl]
      exact hne i h1
    · obtain rfl : i = ls.length := by omega
      rw [if_pos rfl, if_neg (by omega)]
      exact blk_sym (hne j h2)
    · omega
theorem zjp_ {ls ms : List (List Int)} {i : Nat} (h : ls.length ≤ i) : rgt (ls ++ ms) i = rgt ms (i - ls.length) := by
  simp [rgt, List.getD_eq_getElem?_getD, List.getElem?_append_right h]
theorem OwnSS.append {e1 e2 : Nat} {w w' : World} {B B' c d c' : Nat} {X X' Y : Option Addr} {ls ms : List (List Int)} {ps qs : Nat → Option Addr × Nat} {cells news : List Value} (h : OwnSS e1 e2 w B X c ls ps) (g0 : OwnSS e1 e2 w B' Y d ms qs) (hne : ∀ l m, l < ls.length → m < ms.length → blk (ps l).1 = none ∨ blk (ps l).1 ≠ blk (qs m).1) (he : e1 ≠ e2)
    (hr0 : Row w B e1 1 X ls.length c cells) (hc : ∀ j, j < ls.length → cells[j]? = some (.slice (ps j).1 (rgt ls j).length (ps j).2)) (hnl : news.length = ms.length) (hN : ∀ j, j < ms.length → news[j]? = some (.slice (qs j).1 (rgt ms j).length (qs j).2)) (hr : Row w' B e1 1 X' (ls.length + ms.length) c' (cells ++ news)) (g : w.grownBy w' (blk X)) : OwnSS e1 e2 w' 0 X' c' (ls ++ ms) (joinP ls.length ps qs) := by
  have hlen := hr0.len
  refine ⟨⟨_, by rw [List.length_append]; exact Row.mono hr (Nat.zero_le _), fun j hj => ?_⟩, fun j hj => ?_, fun i j hi hj hij => ?_⟩
  · rw [List.length_append] at hj
    by_cases hlt : j < ls.length
    · rw [List.getElem?_append_left (by omega), hc j hlt, zei_ hlt]
      simp only [joinP, hlt, if_true]
    · rw [List.getElem?_append_right (by omega), zjp_ (by omega)]
      simp only [joinP, hlt, if_false]
      rw [show j - cells.length = j - ls.length from by omega]
      exact hN _ (by omega)
  · rw [List.length_append] at hj
    by_cases hlt : j < ls.length
    · rw [zei_ hlt]
      simp only [joinP, hlt, if_true]
      exact Row.mono (Row.kept (h.own j hlt) g (zue_ (h.own j hlt) hr0 fun e => he e.symm)) (Nat.zero_le _)
    · rw [zjp_ (by omega)]
      simp only [joinP, hlt, if_false]
      exact Row.mono (Row.kept (g0.own _ (by omega)) g (zue_ (g0.own _ (by omega)) hr0 fun e => he e.symm)) (Nat.zero_le _)
  · rw [List.length_append] at hi hj
    by_cases h1 : i < ls.length <;> by_cases h2 : j < ls.length <;> simp only [joinP, h1, h2, if_true, if_false]
    · exact h.two i j h1 h2 hij
    · exact hne i _ h1 (by omega)
    · exact blk_sym (hne j _ h2 (by omega))
    · exact g0.two _ _ (by omega) (by omega) (by omega)
theorem OwnSS.put {e1 e2 : Nat} {w w' : World} {B c i m : Nat} {x : Int} {X : Option Addr} {ls : List (List Int)} {ps : Nat → Option Addr × Nat} (h : OwnSS e1 e2 w B X c ls ps) (he : e1 ≠ e2) (hi : i < ls.length) (hr : Row w' B e2 1 (ps i).1 (rgt ls i).length (ps i).2 (ints ((rgt ls i).set m x))) (g : w.grownBy w' (blk (ps i).1)) : OwnSS e1 e2 w' B X c (ls.set i ((rgt ls i).set m x)) ps := by
  obtain ⟨⟨cells, hr0, hc⟩, ho, ht⟩ := h
  have hg : ∀ j, rgt (ls.set i ((rgt ls i).set m x)) j = if j = i then (rgt ls i).set m x else rgt ls j := fun j => by
    simp only [rgt, List.getD_eq_getElem?_getD, List.getElem?_set]
    by_cases hij : i = j
    · subst hij
      simp [hi]
    · rw [if_neg hij, if_neg (fun e => hij e.symm)]
  refine ⟨⟨cells, by rw [List.length_set]; exact Row.kept hr0 g (zue_ hr0 (ho i hi) he), fun j hj => ?_⟩, fun j hj => ?_, fun a b ha hb hab => ?_⟩
  · rw [List.length_set] at hj
    rw [hc j hj, hg j]
    by_cases hij : j = i
    · subst hij
      rw [if_pos rfl, List.length_set]
    · rw [if_neg hij]
  · rw [List.length_set] at hj
    rw [hg j]
    by_cases hij : j = i
    · subst hij
      rw [if_pos rfl]
      unfold Own
      rw [List.length_set]
      exact hr
    · rw [if_neg hij]
      exact Row.kept (ho j hj) g (ht j i hj hi hij)
  · rw [List.length_set] at ha hb
    exact ht a b ha hb hab
theorem OwnSS.ptr {e1 e2 : Nat} {w : World} {B c : Nat} {X : Option Addr} {ls : List (List Int)} {ps : Nat → Option Addr × Nat} (h : OwnSS e1 e2 w B X c ls ps) (hl : 0 < ls.length) : X = some (ad X) := by
  obtain ⟨⟨cells, hr, hc⟩, _⟩ := h
  exact hr.ptr hl
theorem OwnSS.cell {e1 e2 : Nat} {w : World} {B c : Nat} {X : Option Addr} {ls : List (List Int)} {ps : Nat → Option Addr × Nat} (h : OwnSS e1 e2 w B X c ls ps) {j : Nat} (hj : j < ls.length) : w.cell? ((ad X).add j) = some (.slice (ps j).1 (rgt ls j).length (ps j).2) := by
  obtain ⟨⟨cells, hr, hc⟩, _⟩ := h
  exact hr.src.cell _ _ (hc j hj)
theorem Apt.single {w0 w : World} {L : List Thing} (H : Apt w0 w L) {i j : Nat} (hij : i ≠ j) {e1 e2 c d : Nat} {X Y : Option Addr} {ys : List Int} (hi : L[i]? = some (rwi e1 1 X 1 c [.slice Y ys.length d])) (hj : L[j]? = some (rwi e2 1 Y ys.length d (Sh.ints ys))) : Apt w0 w ((L.set i (Sh.lssi e1 e2 X c [ys] fun _ => (Y, d))).set j emp) := by
  have hr := H.row i hi
  have ho := H.row j hj
  have o : OwnSS e1 e2 w w0.heap.size X c [ys] fun _ => (Y, d) := by
    refine ⟨⟨_, hr, fun l hl => ?_⟩, fun l hl => ?_, fun a b ha hb hab => ?_⟩
    · obtain rfl : l = 0 := by simpa using hl
      rfl
    · obtain rfl : l = 0 := by simpa using hl
      exact ho
    · simp at ha hb
      omega
  refine H.join hij hi hj (Gx.refl _ w) (fun q hq => ?_) (fun q hq => (o.foot hq).2) (zkh_ o)
  rcases hq with hq | ⟨l, hl, hq⟩
  · exact .inl hq
  · exact .inr (.inl hq)
end Go.Sh
namespace Go.Proofs.Ytegcjkhebecgbaa
open Go Go.Sh Go.RowKit
abbrev lss (X : Option Addr) (c : Nat) (ls : List (List Int)) (ps : Nat → Option Addr × Nat) : Thing := lssi 27 3 X c ls ps
section
variable {k : Value → World → Prop} {w0 w w' : World} {L : List Thing}
theorem pushSSH {k : Value → Value → World → Prop} (H : Apt w0 w L) (i j : Nat) (hij : i ≠ j) {u n c m d : Nat} {X Y : Option Addr} {ls : List (List Int)} {ys : List Int} {ps : Nat → Option Addr × Nat} (hi : L[i]? = some (lss X c ls ps)) (hj : L[j]? = some (ows Y d ys)) {cs : List Bool} (hn : n = ls.length) (hm : m = ys.length) (hb : ls.length ≤ 1000000000)
    (h : ∀ t X' c' w' ps', Apt w0 w' ((L.set i (lss X' c' (ls ++ [ys]) ps')).set j emp) → k t (.slice X' (ls ++ [ys]).length c') w') : Do Try.prog (zh_ 35 1 [(0, .slice Y m d)]) (fun t w1 => Do Try.prog (ze_ .append #[35, 35] u cs [.slice X n c, t]) (k t) w1) w := by
  subst hn hm
  refine bs35 [.slice Y ys.length d] (by decide) (by simp [Instr.fill, madeCells, Value.cells, rng1]) rfl fun b w1 hb1 hb2 g hB hr => ?_
  have H1 := H.step g
  have o1 := H1.lssi i hi
  have o1' := o1
  obtain ⟨⟨cells, hr1, hc⟩, ho, ht⟩ := o1'
  have hY : Own 3 w1 w0.heap.size Y d ys := H1.own j hj
  refine zcg_ u35 inf27 rfl (by decide) hr1 (Row.src (hr _ (Nat.le_refl _))) rfl (by intro v hv; simp at hv; subst hv; rfl) (by omega) (by omega) H1.gr.size fun X' c' w' hr' hg hmv => ?_
  rw [show ls.length + 1 = (ls ++ [ys]).length from by simp]
  refine h _ X' c' w' (fun i => if i = ls.length then (Y, d) else ps i) (H1.join hij hi hj (gx_of hg fun q hq => .inl (.inl hq)) (fun q hq => ?_) (fun q hq => ?_) ?_)
  · rcases hq with hq | ⟨l, hl, hq⟩
    · rcases hmv with e | e
      · exact .inl (.inl (e ▸ hq))
      · exact .inr (.inr (e q hq))
    · rw [List.length_append] at hl
      simp only [List.length_cons, List.length_nil] at hl
      by_cases h1 : l = ls.length
      · subst h1
        simp only [if_true] at hq
        exact .inr (.inl hq)
      · simp only [h1, if_false] at hq
        exact .inl (.inr ⟨l, by omega, hq⟩)
  · have := (o1.push hY (fun l hl => by
      cases hq : blk (ps l).1 with
      | none => exact .inl rfl
      | some q => exact .inr fun e => H1.two i j _ _ hij hi hj q (.inr ⟨l, hl, hq⟩) (show blk Y = some q from e.symm)) (by decide) hr1 hc hr' hg)
    exact (this.foot hq).2
  · exact zkh_ (o1.push hY (fun l hl => by
      cases hq : blk (ps l).1 with
      | none => exact .inl rfl
      | some q => exact .inr fun e => H1.two i j _ _ hij hi hj q (.inr ⟨l, hl, hq⟩) (show blk Y = some q from e.symm)) (by decide) hr1 hc hr' hg)
end
end Go.Proofs.Ytegcjkhebecgbaa

namespace Go.Sh
open Go
section
variable {w : World} {B e n c g : Nat} {X : Option Addr} {cells : List Value}
theorem Row.full (h : Row w B e 1 X n c cells) (hX : X ≠ none) : ∃ g tl, X = some ⟨g, 0, none⟩ ∧ tl.length = c - n ∧ n ≤ c ∧ c ≤ 9223372036854775807 ∧ Row w B e 1 X c c (cells ++ tl) := by
  rcases h.2 with h2 | ⟨g, cap, cur, e1, e2, e3, e4, e5, e6, e7⟩
  · simp only [Value.slice.injEq] at h2
    exact absurd h2.1.1 hX
  · simp only [Value.slice.injEq] at e1
    obtain ⟨rfl, _, rfl⟩ := e1
    have e6' : cur.toList.length = c := by simpa using e6
    refine ⟨g, cur.toList.drop n, rfl, by rw [List.length_drop]; omega, e4, by simpa [maxLen] using e5, ?_⟩
    have ec : cells ++ cur.toList.drop n = cur.toList := by rw [← e7, Nat.mul_one, List.take_append_drop]
    rw [ec]
    exact ⟨by omega, .inr ⟨g, c, cur, rfl, e2, e3, Nat.le_refl _, e5, e6, by rw [Nat.mul_one, List.take_of_length_le (by omega)]⟩⟩
theorem Row.cut (h : Row w B e 1 X n c cells) {m : Nat} (hm : m ≤ n) : Row w B e 1 X m c (cells.take m) := by
  have hl := h.1
  rcases h.2 with ⟨h2, h3⟩ | ⟨g, cap, cur, e1, e2, e3, e4, e5, e6, e7⟩
  · subst h3
    obtain rfl : m = 0 := by omega
    simp only [Value.slice.injEq] at h2
    obtain ⟨rfl, _, rfl⟩ := h2
    exact Row.nil _ _ _ _
  · simp only [Value.slice.injEq] at e1
    obtain ⟨rfl, _, rfl⟩ := e1
    refine ⟨by rw [List.length_take]; omega, .inr ⟨g, c, cur, rfl, e2, e3, by omega, e5, e6, ?_⟩⟩
    rw [← e7, Nat.mul_one, Nat.mul_one, List.take_take, Nat.min_eq_left hm]
theorem Row.setCells : ∀ (vs : List Value) {w : World} {cells : List Value} (h : Row w B e 1 (some ⟨g, 0, none⟩) n c cells) (o : Nat), o + vs.length ≤ n → Row (w.setCells g o vs) B e 1 (some ⟨g, 0, none⟩) n c (cells.take o ++ vs ++ cells.drop (o + vs.length)) ∧ w.grownBy (w.setCells g o vs) (some g) := by
  intro vs
  induction vs with
  | nil =>
    intro w cells h o ho
    simp only [List.append_nil, List.length_nil, Nat.add_zero, List.take_append_drop]
    exact ⟨h, zbf_ (Gr.refl w) _⟩
  | cons v vs ih =>
    intro w cells h o ho
    rw [List.length_cons] at ho
    have hl : cells.length = n := by have := h.1; omega
    have hst := World.ownsRow.stored h o v
    obtain ⟨h1, h2⟩ := ih (show Row (w.setCell ⟨g, o, none⟩ v) B e 1 (some ⟨g, 0, none⟩) n c (cells.set o v) from hst.1) (o + 1) (by omega)
    refine ⟨?_, ztd_ hst.2 h2⟩
    have e1 : (cells.set o v).take (o + 1) = cells.take o ++ [v] := by
      rw [List.take_succ_eq_append_getElem (by rw [List.length_set]; omega), List.getElem_set_self, List.take_set, List.set_eq_of_length_le (by rw [List.length_take]; omega)]
    have e2 : (cells.set o v).drop (o + 1 + vs.length) = cells.drop (o + (v :: vs).length) := by
      rw [List.drop_set_of_lt (by omega), List.length_cons]
      congr 1
      omega
    rw [e1, e2, List.append_assoc (cells.take o) [v] vs] at h1
    exact h1
theorem gr_ahead (w : World) (q : Nat) : Gr w (Sort.ahead w q) := ⟨rfl, rfl, rfl, Nat.le_refl _, fun _ _ _ => rfl⟩
theorem Row.put {d xs : List Int} (h : Row w B e 1 (some ⟨g, 0, none⟩) n c (ints xs)) (hd : d.length = n) : Row (Sort.putRow (.int .i64) w g 0 d.toArray) B e 1 (some ⟨g, 0, none⟩) n c (ints d) ∧ w.grownBy (Sort.putRow (.int .i64) w g 0 d.toArray) (some g) := by
  rcases h.2 with h2 | ⟨g', cap, cur, e1, e2, e3, e4, e5, e6, e7⟩
  · simp at h2
  · simp only [Value.slice.injEq, Option.some.injEq, Addr.mk.injEq, and_true, true_and] at e1
    obtain ⟨rfl, rfl⟩ := e1
    have e6' : cur.size = c := by simpa using e6
    refine ⟨⟨by rw [zyd_]; omega, .inr ⟨g, c, Sort.putCells (.int .i64) 0 d.toArray cur, rfl, e2, ?_, e4, e5, ?_, ?_⟩⟩, ⟨rfl, rfl, rfl, ?_, fun k hk hn => ?_⟩⟩
    · simp only [Sort.putRow, Sort.mapBlock, Array.getElem?_modify, if_true, e3, Option.map_some, Sort.onCells]
    · simp [Sort.putCells, e6']
    · apply List.ext_getElem?
      intro j
      rw [Nat.mul_one, List.getElem?_take]
      by_cases hj : j < n
      · rw [if_pos hj, Array.getElem?_toList]
        simp only [Sort.putCells, Array.getElem?_mapIdx]
        have hc : j < cur.size := by omega
        rw [Array.getElem?_eq_getElem hc]
        simp [ints, hd, hj]
      · rw [if_neg hj, List.getElem?_eq_none (by rw [zyd_]; omega)]
    · simp [Sort.putRow, Sort.mapBlock]
    · simp only [Sort.putRow, Sort.mapBlock, Array.getElem?_modify]
      rw [if_neg (fun e => hn (by rw [e]))]
theorem Row.holds {xs : List Int} (h : Row w B e 1 (some ⟨g, 0, none⟩) n c (ints xs)) : Sort.Holds (.int .i64) w g 0 xs.toArray := by
  rcases h.2 with h2 | ⟨g', cap, cur, e1, e2, e3, e4, e5, e6, e7⟩
  · simp at h2
  · simp only [Value.slice.injEq, Option.some.injEq, Addr.mk.injEq, and_true, true_and] at e1
    obtain ⟨rfl, rfl⟩ := e1
    intro j hj
    have hj' : j < xs.length := by simpa using hj
    refine ⟨?_, ?_⟩
    · have := h.src.cell j (.int .i64 xs[j]) (by simp [ints, hj'])
      rw [show (ad (some (⟨g, 0, none⟩ : Addr))).add j = ⟨g, 0 + j, none⟩ from by show (⟨g, 0, none⟩ : Addr).add j = _; rw [zq34]] at this
      rw [this]
      simp [hj']
    · simp only [World.frozen?, e3]
      simp
theorem Row.facts (h : Row w B e 1 (some ⟨g, 0, none⟩) n c cells) : (∀ (j : Nat) (v : Value), cells[j]? = some v → w.cell? ⟨g, 0 + j, none⟩ = some v) ∧ (∀ j : Nat, w.frozen? ⟨g, j, none⟩ = false) ∧ w.shape? g = some (e, c) := by
  refine ⟨fun j v hv => ?_, ?_⟩
  · have := h.src.cell j v hv
    rwa [show (ad (some (⟨g, 0, none⟩ : Addr))).add j = ⟨g, 0 + j, none⟩ from by show (⟨g, 0, none⟩ : Addr).add j = _; rw [zq34]] at this
  · rcases h.2 with h2 | ⟨g', cap, cur, e1, e2, e3, e4, e5, e6, e7⟩
    · simp at h2
    · simp only [Value.slice.injEq, Option.some.injEq, Addr.mk.injEq, and_true, true_and] at e1
      obtain ⟨rfl, rfl⟩ := e1
      refine ⟨fun j => ?_, ?_⟩
      · simp only [World.frozen?, e3]
        simp
      · simp only [World.shape?, e3]
        rw [show cur.size = c from by simpa using e6]
end
end Go.Sh
namespace Go.Proofs.Ytegcjkhebecgbaa
open Go Go.Sh Go.RowKit Go.Shelf
section
variable {k : Value → World → Prop} {w0 w : World} {L : List Thing}
end
def rhoR : Ren := ⟨fun x => match x with
  | 112 => 235
  | 125 => 302
  | 128 => 328
  | 129 => 329
  | 189 => 243
  | 215 => 308
  | 216 => 325
  | 257 => 301
  | 294 => 319
  | 295 => 320
  | 296 => 321
  | 297 => 322
  | 298 => 323
  | 299 => 324
  | 300 => 326
  | 301 => 327
  | 328 => 336
  | 329 => 337
  | 330 => 338
  | 331 => 339
  | 332 => 340
  | 343 => 357
  | x => x, fun x => match x with
  | 28 => 27
  | 46 => 247
  | 51 => 266
  | 53 => 112
  | 131 => 67
  | 182 => 260
  | 183 => 261
  | 218 => 276
  | 222 => 239
  | 228 => 293
  | 229 => 294
  | x => x, fun x => x⟩
theorem layRev : Lays.n112 Try.prog rhoR where
  mixed := by kernel_rfl
  f112 := by kernel_rfl
  t0 := by kernel_rfl
  a0 := fun w => by kernel_rfl
  z0 := fun w => by kernel_rfl
  v0 := fun w => by kernel_rfl
  t3 := by kernel_rfl
  a3 := fun w => by kernel_rfl
  z3 := fun w => by kernel_rfl
  v3 := fun w => by kernel_rfl
  t4 := by kernel_rfl
  a4 := fun w => by kernel_rfl
  z4 := fun w => by kernel_rfl
  v4 := fun w => by kernel_rfl
  t28 := by kernel_rfl
  a28 := fun w => by kernel_rfl
  z28 := fun w => by kernel_rfl
  v28 := fun w => by kernel_rfl
set_option maxHeartbeats 4000000 in
theorem laySort : Lays.n189 Try.prog rhoR where
  mixed := by kernel_rfl
  f125 := by kernel_rfl
  f128 := by kernel_rfl
  f129 := by kernel_rfl
  f189 := by kernel_rfl
  f215 := by kernel_rfl
  f216 := by kernel_rfl
  f257 := by kernel_rfl
  f294 := by kernel_rfl
  f295 := by kernel_rfl
  f296 := by kernel_rfl
  f297 := by kernel_rfl
  f298 := by kernel_rfl
  f299 := by kernel_rfl
  f300 := by kernel_rfl
  f301 := by kernel_rfl
  f328 := by kernel_rfl
  f329 := by kernel_rfl
  f330 := by kernel_rfl
  f331 := by kernel_rfl
  f332 := by kernel_rfl
  f343 := by kernel_rfl
  t0 := by kernel_rfl
  a0 := fun w => by kernel_rfl
  z0 := fun w => by kernel_rfl
  v0 := fun w => by kernel_rfl
  t3 := by kernel_rfl
  a3 := fun w => by kernel_rfl
  z3 := fun w => by kernel_rfl
  v3 := fun w => by kernel_rfl
  t4 := by kernel_rfl
  a4 := fun w => by kernel_rfl
  z4 := fun w => by kernel_rfl
  v4 := fun w => by kernel_rfl
  t5 := by kernel_rfl
  a5 := fun w => by kernel_rfl
  z5 := fun w => by kernel_rfl
  v5 := fun w => by kernel_rfl
  t9 := by kernel_rfl
  a9 := fun w => by kernel_rfl
  z9 := fun w => by kernel_rfl
  v9 := fun w => by kernel_rfl
  t28 := by kernel_rfl
  a28 := fun w => by kernel_rfl
  z28 := fun w => by kernel_rfl
  v28 := fun w => by kernel_rfl
  t46 := by kernel_rfl
  a46 := fun w => by kernel_rfl
  z46 := fun w => by kernel_rfl
  v46 := fun w => by kernel_rfl
  t51 := by kernel_rfl
  a51 := fun w => by kernel_rfl
  z51 := fun w => by kernel_rfl
  v51 := fun w => by kernel_rfl
  t53 := by kernel_rfl
  a53 := fun w => by kernel_rfl
  z53 := fun w => by kernel_rfl
  v53 := fun w => by kernel_rfl
  t131 := by kernel_rfl
  a131 := fun w => by kernel_rfl
  z131 := fun w => by kernel_rfl
  v131 := fun w => by kernel_rfl
  t182 := by kernel_rfl
  a182 := fun w => by kernel_rfl
  z182 := fun w => by kernel_rfl
  v182 := fun w => by kernel_rfl
  t183 := by kernel_rfl
  a183 := fun w => by kernel_rfl
  z183 := fun w => by kernel_rfl
  v183 := fun w => by kernel_rfl
  t218 := by kernel_rfl
  a218 := fun w => by kernel_rfl
  z218 := fun w => by kernel_rfl
  v218 := fun w => by kernel_rfl
  t222 := by kernel_rfl
  a222 := fun w => by kernel_rfl
  z222 := fun w => by kernel_rfl
  v222 := fun w => by kernel_rfl
  t228 := by kernel_rfl
  a228 := fun w => by kernel_rfl
  z228 := fun w => by kernel_rfl
  v228 := fun w => by kernel_rfl
  t229 := by kernel_rfl
  a229 := fun w => by kernel_rfl
  z229 := fun w => by kernel_rfl
  v229 := fun w => by kernel_rfl
theorem hasRev : zyi_ Try.prog 235 := ⟨_, Try.func235, by kernel_rfl, by kernel_rfl⟩
theorem hasSort : zyi_ Try.prog 243 := ⟨_, Try.func243, by kernel_rfl, by kernel_rfl⟩
theorem gr_grow' (w : World) (os : Array Obj) : Gr w (Sort.grow w os) := ⟨rfl, rfl, rfl, by simp [Sort.grow], fun q hq _ => by
  show (w.heap ++ os)[q]? = _
  rw [Array.getElem?_append_left hq]⟩
section
variable {k : Value → World → Prop} {w : World} {B c : Nat} {X : Option Addr} {xs : List Int}
theorem reverseI_c (h : Own 3 w B X c xs) {n : Nat} (hn : n = xs.length)
    (hk : ∀ w', w.grownBy w' (blk X) → Own 3 w' B X c xs.reverse → k (.tuple #[]) w') : CallK Try.prog 235 [.slice X n c] k w := by
  subst hn
  refine ⟨hasRev, ?_⟩
  by_cases hX : X = none
  · have h0 : xs = [] := by
      by_cases e : xs = []
      · exact e
      · have := h.ptr (List.length_pos_iff.2 e)
        rw [hX] at this
        cases this
    subst h0
    refine Calls.mono (Any.slices_Reverse_int_empty layRev X c w) ?_
    rintro e w' ⟨rfl, rfl⟩
    exact hk _ (zbf_ (Gr.refl _) _) h
  obtain ⟨g, tl, rfl, _, hnc, hcm, _⟩ := Row.full h hX
  refine Calls.mono (Any.slices_Reverse_int layRev g 0 c xs w (Row.holds h) (by omega)) ?_
  rintro e w' ⟨rfl, q, rfl⟩
  have hr1 : Row (Sort.ahead w q) B 3 1 (some ⟨g, 0, none⟩) xs.length c (ints xs) := h
  obtain ⟨hr2, hg2⟩ := Row.put hr1 (d := xs.reverse) (by simp)
  refine hk _ (ztd_ (zbf_ (gr_ahead w q) _) hg2) ?_
  show Row _ _ _ _ _ xs.reverse.length _ _
  rw [List.length_reverse]
  exact hr2
theorem sortI_c (h : Own 3 w B X c xs) {n : Nat} (hn : n = xs.length) (hb : xs.length ≤ 1000)
    (hk : ∀ w', w.grownBy w' (blk X) → Own 3 w' B X c (xs.mergeSort fun x y => decide (x ≤ y)) → k (.tuple #[]) w') : CallK Try.prog 243 [.slice X n c] k w := by
  subst hn
  refine ⟨hasSort, ?_⟩
  by_cases he : xs = []
  · subst he
    refine Calls.mono (Any.slices_Sort_int_none laySort X c w) ?_
    rintro e w' ⟨rfl, rfl⟩
    refine hk _ (zbf_ (Gr.refl _) _) ?_
    rw [List.mergeSort_nil]
    exact h
  have h0 : X ≠ none := fun e => by
    have := h.ptr (List.length_pos_iff.2 he)
    rw [e] at this
    cases this
  obtain ⟨g, tl, rfl, _, hnc, hcm, _⟩ := Row.full h h0
  refine Calls.mono (Any.slices_Sort_int laySort g 0 c xs w (Row.holds h) (Row.ge h (show blk (some ⟨g, 0, none⟩) = some g from rfl)).2 (by omega)) ?_
  rintro e w' ⟨rfl, q, os, rfl⟩
  have hr1 : Row (Sort.ahead w q) B 3 1 (some ⟨g, 0, none⟩) xs.length c (ints xs) := h
  obtain ⟨hr2, hg2⟩ := Row.put hr1 (d := xs.mergeSort fun x y => decide (x ≤ y)) (by simp)
  have hg3 := gr_grow' (Sort.putRow (.int .i64) (Sort.ahead w q) g 0 (xs.mergeSort fun x y => decide (x ≤ y)).toArray) os
  refine hk _ (ztd_ (zbf_ (gr_ahead w q) _) (ztd_ hg2 (zbf_ hg3 _))) ?_
  show Row _ _ _ _ _ (xs.mergeSort fun x y => decide (x ≤ y)).length _ _
  rw [List.length_mergeSort]
  exact Row.gr hr2 hg3
end
end Go.Proofs.Ytegcjkhebecgbaa

namespace Go.Sh
inductive PT where
  | mk (non : Int) (rule at_ fin fr to : Nat) (kids : List PT)
def PT.non : PT → Int | .mk n _ _ _ _ _ _ => n
def PT.rule : PT → Nat | .mk _ r _ _ _ _ _ => r
def PT.at_ : PT → Nat | .mk _ _ a _ _ _ _ => a
def PT.fin : PT → Nat | .mk _ _ _ e _ _ _ => e
def PT.fr : PT → Nat | .mk _ _ _ _ f _ _ => f
def PT.to : PT → Nat | .mk _ _ _ _ _ t _ => t
def PT.kids : PT → List PT | .mk _ _ _ _ _ _ k => k
def okT (rs : List RuleL) (tree : List Int) (non : Int) (a : Nat) : Bool :=
  decide (a < tree.length) && (decide (0 ≤ tree.getD a 0) && decide (tree.getD a 0 ≤ (rs.length : Int) - 1)) && decide ((rul rs (tree.getD a 0).toNat).1 = non)
def rgtT (rs : List RuleL) (tree : List Int) (a : Nat) : List Int := (rul rs (tree.getD a 0).toNat).2
def readR (rec : Int → Nat → List Int → Option (PT × List Int)) : List Int → Nat → List Int → List PT → Option (List PT × Nat × List Int)
  | [], e, w, ks => some (ks, e, w)
  | x :: xs, e, w, ks => if x < 0 then readR rec xs e (w ++ [-1 - x]) ks else match rec x e w with
    | none => none
    | some (k, w') => readR rec xs k.fin w' (ks ++ [k])
def readT (rs : List RuleL) (tree : List Int) : Nat → Int → Nat → List Int → Option (PT × List Int)
  | 0, _, _, _ => none
  | f + 1, non, a, w => if okT rs tree non a = true then match readR (readT rs tree f) (rgtT rs tree a) (a + 1) w [] with
      | none => none
      | some (ks, e, w') => some (.mk non (tree.getD a 0).toNat a e w.length w'.length ks, w')
    else none
def endR (rec : Int → Nat → Option Nat) : List Int → Nat → Option Nat
  | [], e => some e
  | x :: xs, e => if x < 0 then endR rec xs e else match rec x e with
    | none => none
    | some e' => endR rec xs e'
def endT (rs : List RuleL) (tree : List Int) : Nat → Int → Nat → Option Nat
  | 0, _, _ => none
  | f + 1, non, a => if okT rs tree non a = true then endR (endT rs tree f) (rgtT rs tree a) (a + 1) else none
theorem endR_eq {rec : Int → Nat → List Int → Option (PT × List Int)} {rec' : Int → Nat → Option Nat} (h : ∀ x a w, rec' x a = (rec x a w).map fun z => z.1.fin) : ∀ (xs : List Int) (e : Nat) (w : List Int) (ks : List PT), endR rec' xs e = (readR rec xs e w ks).map fun z => z.2.1 := by
  intro xs
  induction xs with
  | nil => intro e w ks; rfl
  | cons x xs ih =>
    intro e w ks
    unfold endR readR
    by_cases hx : x < 0
    · rw [if_pos hx, if_pos hx]
      exact ih _ _ _
    · rw [if_neg hx, if_neg hx, h x e w]
      cases rec x e w with
      | none => rfl
      | some z => exact ih _ _ _
theorem endT_eq (rs : List RuleL) (tree : List Int) : ∀ (f : Nat) (non : Int) (a : Nat) (w : List Int), endT rs tree f non a = (readT rs tree f non a w).map fun z => z.1.fin := by
  intro f
  induction f with
  | zero => intro non a w; rfl
  | succ f ih =>
    intro non a w
    unfold endT readT
    by_cases hk : okT rs tree non a = true
    · rw [if_pos hk, if_pos hk, endR_eq ih _ _ w []]
      cases readR (readT rs tree f) (rgtT rs tree a) (a + 1) w [] <;> rfl
    · rw [if_neg hk, if_neg hk]
      rfl
mutual
def PT.parts : PT → List PT
  | .mk n r a e f t ks => .mk n r a e f t ks :: PT.partsL ks
def PT.partsL : List PT → List PT
  | [] => []
  | k :: ks => k.parts ++ PT.partsL ks
end
theorem zwg_ (ks ls : List PT) : PT.partsL (ks ++ ls) = PT.partsL ks ++ PT.partsL ls := by
  induction ks with
  | nil => simp [PT.partsL]
  | cons k ks ih => simp [PT.partsL, ih]
theorem parts_cons (p : PT) : p.parts = p :: PT.partsL p.kids := by
  cases p
  simp [PT.parts, PT.kids]
def Laid (l : List PT) (a : Nat) : Prop := ∀ i, (h : i < l.length) → l[i].at_ = a + i ∧ l[i].fin ≤ a + l.length ∧ a + i < l[i].fin ∧ l[i].parts = (l.drop i).take (l[i].fin - (a + i))
theorem Laid.append {l m : List PT} {a : Nat} (h : Laid l a) (g : Laid m (a + l.length)) : Laid (l ++ m) a := by
  intro i hi
  by_cases hl : i < l.length
  · obtain ⟨h1, h2, h3, h4⟩ := h i hl
    rw [List.getElem_append_left hl]
    refine ⟨h1, by simp; omega, h3, ?_⟩
    rw [List.drop_append_of_le_length (by omega), List.take_append_of_le_length (by simp; omega)]
    exact h4
  · obtain ⟨d, rfl⟩ : ∃ d, i = l.length + d := ⟨i - l.length, by omega⟩
    have hm : d < m.length := by simp at hi; omega
    obtain ⟨h1, h2, h3, h4⟩ := g d hm
    have e : (l ++ m)[l.length + d] = m[d] := by
      rw [List.getElem_append_right (by omega)]
      simp
    rw [e]
    have hlen : (l ++ m).length = l.length + m.length := List.length_append
    refine ⟨?_, ?_, ?_, ?_⟩
    · omega
    · omega
    · omega
    · have e2 : (l ++ m).drop (l.length + d) = m.drop d := by
        rw [← List.drop_drop, List.drop_left]
      rw [h4, e2, Nat.add_assoc]
theorem readR_laid {rec : Int → Nat → List Int → Option (PT × List Int)} (h : ∀ x a w p w', rec x a w = some (p, w') → Laid p.parts a ∧ p.fin = a + p.parts.length ∧ p.at_ = a ∧ p.non = x ∧ p.fr = w.length ∧ p.to = w'.length ∧ w.length ≤ w'.length) :
    ∀ (xs : List Int) (e : Nat) (w : List Int) (ks : List PT) (a : Nat) {ks' : List PT} {e' : Nat} {w' : List Int}, Laid (PT.partsL ks) a → e = a + (PT.partsL ks).length → readR rec xs e w ks = some (ks', e', w') → Laid (PT.partsL ks') a ∧ e' = a + (PT.partsL ks').length ∧ w.length ≤ w'.length := by
  intro xs
  induction xs with
  | nil =>
    intro e w ks a ks' e' w' hl he hr
    simp only [readR, Option.some.injEq, Prod.mk.injEq] at hr
    obtain ⟨rfl, rfl, rfl⟩ := hr
    exact ⟨hl, he, Nat.le_refl _⟩
  | cons x xs ih =>
    intro e w ks a ks' e' w' hl he hr
    unfold readR at hr
    by_cases hx : x < 0
    · rw [if_pos hx] at hr
      obtain ⟨h1, h2, h3⟩ := ih _ _ _ _ hl he hr
      exact ⟨h1, h2, by simp at h3; omega⟩
    · rw [if_neg hx] at hr
      cases hz : rec x e w with
      | none => rw [hz] at hr; cases hr
      | some z =>
        obtain ⟨k, w1⟩ := z
        rw [hz] at hr
        obtain ⟨h1, h2, _, _, _, _, h3⟩ := h x e w k w1 hz
        have hl' : Laid (PT.partsL (ks ++ [k])) a := by
          rw [zwg_]
          refine hl.append ?_
          simp only [PT.partsL, List.append_nil]
          rw [← he]
          exact h1
        obtain ⟨g1, g2, g3⟩ := ih _ _ _ _ hl' (by rw [zwg_]; simp [PT.partsL]; omega) hr
        exact ⟨g1, g2, by omega⟩
theorem zim_ (rs : List RuleL) (tree : List Int) : ∀ (f : Nat) (non : Int) (a : Nat) (w : List Int) (p : PT) (w' : List Int), readT rs tree f non a w = some (p, w') → Laid p.parts a ∧ p.fin = a + p.parts.length ∧ p.at_ = a ∧ p.non = non ∧ p.fr = w.length ∧ p.to = w'.length ∧ w.length ≤ w'.length := by
  intro f
  induction f with
  | zero => intro non a w p w' h; cases h
  | succ f ih =>
    intro non a w p w' h
    unfold readT at h
    by_cases hk : okT rs tree non a = true
    · rw [if_pos hk] at h
      cases hz : readR (readT rs tree f) (rgtT rs tree a) (a + 1) w [] with
      | none => rw [hz] at h; cases h
      | some z =>
        obtain ⟨ks, e, w1⟩ := z
        rw [hz] at h
        simp only [Option.some.injEq, Prod.mk.injEq] at h
        obtain ⟨rfl, rfl⟩ := h
        have h0 : Laid (PT.partsL []) (a + 1) := fun i hi => by simp [PT.partsL] at hi
        obtain ⟨h1, h2, h3⟩ := readR_laid ih _ _ _ _ (a + 1) h0 (by simp [PT.partsL]) hz
        refine ⟨?_, by simp [PT.parts, PT.fin]; omega, rfl, rfl, rfl, rfl, h3⟩
        rw [PT.parts]
        intro i hi
        cases i with
        | zero =>
          refine ⟨rfl, ?_, ?_, ?_⟩
          · simp [PT.fin]; omega
          · simp [PT.fin]; omega
          · simp only [List.getElem_cons_zero, PT.fin, List.drop_zero, PT.parts]
            rw [List.take_of_length_le]
            simp
            omega
        | succ i =>
          simp only [List.length_cons] at hi
          obtain ⟨g1, g2, g3, g4⟩ := h1 i (by omega)
          simp only [List.getElem_cons_succ, List.drop_succ_cons, List.length_cons]
          refine ⟨by rw [g1]; omega, by omega, by omega, ?_⟩
          rw [g4]
          congr 1
          omega
    · rw [if_neg hk] at h
      cases h
theorem readR_words {rec : Int → Nat → List Int → Option (PT × List Int)} (h : ∀ x a w p w', rec x a w = some (p, w') → w.length ≤ w'.length ∧ w'.length ≤ w.length + 4 * p.parts.length) :
    ∀ (xs : List Int) (e : Nat) (w : List Int) (ks : List PT) {ks' : List PT} {e' : Nat} {w' : List Int}, readR rec xs e w ks = some (ks', e', w') → w.length ≤ w'.length ∧ w'.length + 4 * (PT.partsL ks).length ≤ w.length + xs.length + 4 * (PT.partsL ks').length := by
  intro xs
  induction xs with
  | nil =>
    intro e w ks ks' e' w' hr
    simp only [readR, Option.some.injEq, Prod.mk.injEq] at hr
    obtain ⟨rfl, rfl, rfl⟩ := hr
    simp
  | cons x xs ih =>
    intro e w ks ks' e' w' hr
    unfold readR at hr
    split at hr
    · have := ih _ _ _ hr
      simp at this ⊢
      omega
    · split at hr
      · cases hr
      · rename_i k w1 hz
        have h1 := h _ _ _ _ _ hz
        have h2 := ih _ _ _ hr
        rw [zwg_] at h2
        simp [PT.partsL] at h2 ⊢
        omega
theorem readT_words {rs : List RuleL} {tree : List Int} (h4 : ∀ q, q < rs.length → (rul rs q).2.length ≤ 4) : ∀ (f : Nat) (non : Int) (a : Nat) (w : List Int) (p : PT) (w' : List Int), readT rs tree f non a w = some (p, w') → w.length ≤ w'.length ∧ w'.length ≤ w.length + 4 * p.parts.length := by
  intro f
  induction f with
  | zero => intro non a w p w' h; cases h
  | succ f ih =>
    intro non a w p w' h
    unfold readT at h
    split at h
    · rename_i hok
      split at h
      · cases h
      · rename_i ks e w1 hz
        simp only [Option.some.injEq, Prod.mk.injEq] at h
        obtain ⟨rfl, rfl⟩ := h
        have h1 := readR_words ih _ _ _ _ hz
        have h5 : (rgtT rs tree a).length ≤ 4 := by
          simp only [okT, Bool.and_eq_true, decide_eq_true_eq] at hok
          exact h4 _ (by omega)
        simp only [PT.parts, List.length_cons, PT.partsL, List.length_nil] at h1 ⊢
        omega
    · cases h
def PT.row (p : PT) : List Int := [p.non, p.fin, p.fr, p.to]
def noPT : PT := .mk 0 0 0 0 0 0 []
def ptn (l : List PT) (i : Nat) : PT := l.getD i noPT
open Go
def Away (a b : Thing) : Prop := ∀ q, a.ft q → ¬ b.ft q
theorem Away.symm {a b : Thing} (h : Away a b) : Away b a := fun q hq hq' => h q hq' hq
theorem apt_pair {L : List Thing} : (∀ (i j : Nat) (a b : Thing), i ≠ j → L[i]? = some a → L[j]? = some b → Away a b) ↔ L.Pairwise Away := by
  induction L with
  | nil => exact ⟨fun _ => .nil, fun _ i j a b _ h => by simp at h⟩
  | cons x L ih =>
    constructor
    · intro h
      refine List.Pairwise.cons (fun y hy => ?_) (ih.1 fun i j a b hij ha hb => h (i + 1) (j + 1) a b (by omega) (by simpa using ha) (by simpa using hb))
      obtain ⟨j, hj⟩ := List.getElem?_of_mem hy
      exact h 0 (j + 1) x y (by omega) rfl (by simpa using hj)
    · intro h i j a b hij ha hb
      obtain ⟨h1, h2⟩ := List.pairwise_cons.1 h
      match i, j with
      | 0, 0 => exact absurd rfl hij
      | 0, j + 1 =>
        obtain rfl : x = a := by simpa using ha
        exact h1 b (List.mem_of_getElem? (by simpa using hb))
      | i + 1, 0 =>
        obtain rfl : x = b := by simpa using hb
        exact (h1 a (List.mem_of_getElem? (by simpa using ha))).symm
      | i + 1, j + 1 => exact ih.2 h2 i j a b (by omega) (by simpa using ha) (by simpa using hb)
theorem Apt.perm {w0 w : World} {L M : List Thing} (H : Apt w0 w L) (p : L.Perm M) : Apt w0 w M := by
  refine ⟨H.gr, fun i it hi => ?_, apt_pair.2 ?_⟩
  · obtain ⟨j, hj⟩ := List.getElem?_of_mem (p.symm.subset (List.mem_of_getElem? hi))
    exact H.ok j it hj
  · exact (p.pairwise_iff fun h => Away.symm h).1 (apt_pair.1 H.two)
theorem Apt.insert {w0 w : World} {L : List Thing} {x : Thing} (H : Apt w0 w (L ++ [x])) (n : Nat) : Apt w0 w (L.take n ++ x :: L.drop n) := by
  refine H.perm ?_
  have e : L ++ [x] = L.take n ++ (L.drop n ++ [x]) := by rw [← List.append_assoc, List.take_append_drop]
  rw [e]
  exact (List.perm_append_comm (l₁ := L.drop n) (l₂ := [x])).append_left _
theorem Apt.erase {w0 w : World} {L : List Thing} (H : Apt w0 w L) (n : Nat) : Apt w0 w (L.eraseIdx n) := by
  have h : ∀ (i : Nat) (a : Thing), (L.eraseIdx n)[i]? = some a → L[if i < n then i else i + 1]? = some a := fun i a ha => by
    rw [List.getElem?_eraseIdx] at ha
    split at ha
    · rename_i h; rw [if_pos h]; exact ha
    · rename_i h; rw [if_neg h]; exact ha
  refine H.pick (fun i => if i < n then i else i + 1) h fun i j _ _ e => ?_
  split at e <;> split at e <;> omega
theorem Apt.weaken {w0 w : World} {L : List Thing} (H : Apt w0 w L) (i : Nat) {a b : Thing} (hi : L[i]? = some a) (hf : ∀ q, b.ft q → a.ft q) (hp : ∀ w', (∀ q, a.ft q → w'.heap[q]? = w.heap[q]?) → a.P w' → b.P w') (hk : ∀ w' w'', (∀ q, b.ft q → w''.heap[q]? = w'.heap[q]?) → b.P w' → b.P w'') : Apt w0 w (L.set i b) :=
  H.set hi (Gx.refl _ w) (fun q hq => .inl (hf q hq)) (fun q hq => (H.ok i a hi).hi q (hf q hq)) fun w'' h => hk w w'' h (hp w (fun _ _ => rfl) (H.get i hi))
def both (a b : Thing) : Thing := ⟨fun w => a.P w ∧ b.P w, fun q => a.ft q ∨ b.ft q⟩
theorem Apt.both {w0 w : World} {L : List Thing} (H : Apt w0 w L) (i j : Nat) (hij : i ≠ j) {a b : Thing} (hi : L[i]? = some a) (hj : L[j]? = some b) : Apt w0 w (((L.set i (Sh.both a b)).set j emp).eraseIdx j) :=
  (H.join (it := Sh.both a b) hij hi hj (Gx.refl _ w) (fun q hq => hq.elim .inl fun h => .inr (.inl h)) (fun q hq => hq.elim ((H.ok i a hi).hi q) ((H.ok j b hj).hi q)) fun w'' h => ⟨(H.ok i a hi).kept w'' fun q hq => h q (.inl hq), (H.ok j b hj).kept w'' fun q hq => h q (.inr hq)⟩).erase j

abbrev ptrv (b : Nat) : Value := .pointer (some ⟨b, 0, none⟩)
mutual
def PartAt (F : Nat → Prop) (w : World) : PT → Nat → Prop
  | .mk non rule a e f t ks, b => F b ∧ ∃ X c, Box w b [.int .i64 non, .int .i64 rule, .int .i64 a, .int .i64 e, .int .i64 f, .int .i64 t, .slice X ks.length c] 156 ∧ (0 < ks.length → X = some (ad X) ∧ F (ad X).block) ∧ ks.length ≤ c ∧ KidsAt F w ks X 0
def KidsAt (F : Nat → Prop) (w : World) : List PT → Option Addr → Nat → Prop
  | [], _, _ => True
  | k :: ks, X, j => (∃ b, w.cell? ((ad X).add j) = some (ptrv b) ∧ PartAt F w k b) ∧ KidsAt F w ks X (j + 1)
end
mutual
theorem PartAt.gr {F : Nat → Prop} {w w' : World} (g : Gr w w') : (p : PT) → (b : Nat) → PartAt F w p b → PartAt F w' p b
  | .mk non rule a e f t ks, b, h => by
    simp only [PartAt] at h ⊢
    obtain ⟨hb, X, c, h1, h2, h3, h4⟩ := h
    exact ⟨hb, X, c, h1.gr g, h2, h3, KidsAt.gr g ks X 0 h4⟩
theorem KidsAt.gr {F : Nat → Prop} {w w' : World} (g : Gr w w') : (ks : List PT) → (X : Option Addr) → (j : Nat) → KidsAt F w ks X j → KidsAt F w' ks X j
  | [], X, j, _ => by simp only [KidsAt]
  | k :: ks, X, j, h => by
    simp only [KidsAt] at h ⊢
    obtain ⟨⟨b, h1, h2⟩, h3⟩ := h
    exact ⟨⟨b, g.cell h1, PartAt.gr g k b h2⟩, KidsAt.gr g ks X (j + 1) h3⟩
end
mutual
theorem PartAt.same {F : Nat → Prop} {w w' : World} (hs : ∀ q, F q → w'.heap[q]? = w.heap[q]?) : (p : PT) → (b : Nat) → PartAt F w p b → PartAt F w' p b
  | .mk non rule a e f t ks, b, h => by
    simp only [PartAt] at h ⊢
    obtain ⟨hb, X, c, h1, h2, h3, h4⟩ := h
    refine ⟨hb, X, c, (hs b hb).trans h1, h2, h3, ?_⟩
    cases ks with
    | nil => simp only [KidsAt]
    | cons k ks => exact KidsAt.same hs (k :: ks) X 0 (h2 (by simp)).2 h4
theorem KidsAt.same {F : Nat → Prop} {w w' : World} (hs : ∀ q, F q → w'.heap[q]? = w.heap[q]?) : (ks : List PT) → (X : Option Addr) → (j : Nat) → F (ad X).block → KidsAt F w ks X j → KidsAt F w' ks X j
  | [], X, j, _, _ => by simp only [KidsAt]
  | k :: ks, X, j, hX, h => by
    simp only [KidsAt] at h ⊢
    obtain ⟨⟨b, h1, h2⟩, h3⟩ := h
    refine ⟨⟨b, ?_, PartAt.same hs k b h2⟩, KidsAt.same hs ks X (j + 1) hX h3⟩
    rw [World.cell?_of_block (hs _ (by rw [zhd_]; exact hX))]
    exact h1
end
mutual
theorem PartAt.mono {F E : Nat → Prop} {w : World} (he : ∀ q, F q → E q) : (p : PT) → (b : Nat) → PartAt F w p b → PartAt E w p b
  | .mk non rule a e f t ks, b, h => by
    simp only [PartAt] at h ⊢
    obtain ⟨hb, X, c, h1, h2, h3, h4⟩ := h
    exact ⟨he _ hb, X, c, h1, fun hp => ⟨(h2 hp).1, he _ (h2 hp).2⟩, h3, KidsAt.mono he ks X 0 h4⟩
theorem KidsAt.mono {F E : Nat → Prop} {w : World} (he : ∀ q, F q → E q) : (ks : List PT) → (X : Option Addr) → (j : Nat) → KidsAt F w ks X j → KidsAt E w ks X j
  | [], X, j, _ => by simp only [KidsAt]
  | k :: ks, X, j, h => by
    simp only [KidsAt] at h ⊢
    obtain ⟨⟨b, h1, h2⟩, h3⟩ := h
    exact ⟨⟨b, h1, PartAt.mono he k b h2⟩, KidsAt.mono he ks X (j + 1) h3⟩
end
theorem KidsAt.get {F : Nat → Prop} {w : World} {X : Option Addr} : ∀ {ks : List PT} {j i : Nat}, KidsAt F w ks X j → i < ks.length → ∃ b, w.cell? ((ad X).add (j + i)) = some (ptrv b) ∧ PartAt F w (ptn ks i) b := by
  intro ks
  induction ks with
  | nil => intro j i _ h; simp at h
  | cons k ks ih =>
    intro j i h hi
    simp only [KidsAt] at h
    cases i with
    | zero => exact h.1
    | succ i =>
      obtain ⟨b, h1, h2⟩ := ih h.2 (by simpa using hi)
      exact ⟨b, by rw [show j + (i + 1) = j + 1 + i from by omega]; exact h1, by simpa [ptn] using h2⟩
theorem PartAt.box {F : Nat → Prop} {w : World} {p : PT} {b : Nat} (h : PartAt F w p b) : ∃ X c, Box w b [.int .i64 p.non, .int .i64 p.rule, .int .i64 p.at_, .int .i64 p.fin, .int .i64 p.fr, .int .i64 p.to, .slice X p.kids.length c] 156 ∧ (0 < p.kids.length → X = some (ad X)) ∧ p.kids.length ≤ c ∧ KidsAt F w p.kids X 0 := by
  cases p with
  | mk non rule a e f t ks =>
    simp only [PartAt] at h
    obtain ⟨_, X, c, h1, h2, h3, h4⟩ := h
    exact ⟨X, c, h1, fun hp => (h2 hp).1, h3, h4⟩
def AllPt (F : Nat → Prop) (w : World) (ps : List PT) (bs : List Nat) : Prop := bs.length = ps.length ∧ ∀ i, i < ps.length → PartAt F w (ptn ps i) (bs.getD i 0)
theorem AllPt.gr {F : Nat → Prop} {w w' : World} {ps : List PT} {bs : List Nat} (h : AllPt F w ps bs) (g : Gr w w') : AllPt F w' ps bs := ⟨h.1, fun i hi => PartAt.gr g _ _ (h.2 i hi)⟩
theorem AllPt.append {F : Nat → Prop} {w : World} {ps qs : List PT} {bs cs : List Nat} (h : AllPt F w ps bs) (g : AllPt F w qs cs) : AllPt F w (ps ++ qs) (bs ++ cs) := by
  refine ⟨by simp [h.1, g.1], fun i hi => ?_⟩
  by_cases hl : i < ps.length
  · have := h.2 i hl
    have hb := h.1
    simpa [ptn, List.getD_eq_getElem?_getD, List.getElem?_append_left hl, List.getElem?_append_left (show i < bs.length by omega)] using this
  · rw [List.length_append] at hi
    have := g.2 (i - ps.length) (by omega)
    have hb := h.1
    rw [show ptn (ps ++ qs) i = ptn qs (i - ps.length) from by simp [ptn, List.getD_eq_getElem?_getD, List.getElem?_append_right (show ps.length ≤ i by omega)]]
    rw [show (bs ++ cs).getD i 0 = cs.getD (i - ps.length) 0 from by simp [List.getD_eq_getElem?_getD, List.getElem?_append_right (show bs.length ≤ i by omega), hb]]
    exact this
theorem AllPt.one {F : Nat → Prop} {w : World} {p : PT} {b : Nat} (h : PartAt F w p b) : AllPt F w [p] [b] := ⟨rfl, fun i hi => by
  obtain rfl : i = 0 := by simpa using hi
  exact h⟩

def sizesOK (P : Program) : List Field → List (Nat × Nat) → Prop
  | [], [] => True
  | f :: fs, p :: ps => (f.offset = p.1 ∧ szOf P f.type p.2) ∧ sizesOK P fs ps
  | _, _ => False
theorem run_places {P : Program} (w : World) : ∀ (fs : List Field) (ps : List (Nat × Nat)), sizesOK P fs ps → (fs.mapM (m := Sem) fun f => do pure (f.offset, ← sizeOf f.type)).run P w = .ok ps w := by
  intro fs
  induction fs with
  | nil =>
    intro ps h
    cases ps with
    | nil => rfl
    | cons p ps => exact h.elim
  | cons f fs ih =>
    intro ps h
    cases ps with
    | nil => exact h.elim
    | cons p ps =>
      obtain ⟨⟨h1, h2⟩, h3⟩ := h
      rw [List.mapM_cons]
      simp only [Sem.run_bind, zxc_ h2, Result.andThen, Sem.run_pure, ih ps h3, h1]
theorem rd_buildN {P : Program} {S : WS} {k : Value → Prop} {t sz by' : Nat} {z : Value} {fs : Array Field} {ps : List (Nat × Nat)} {qs : List (Nat × Value)} {cells : Array Value} (ht : P.underlying t = some (.struct fs)) (H : Inf P t z sz by') (hs : sizesOK P fs.toList ps) (hf : Instr.fill (ps.toArray[·]?) z.cells qs = some cells) : Rd P S (zy_ t qs) k = k (.agg cells) := zjc_ fun w _ => by
  obtain ⟨i, hi, hz, _, _⟩ := H
  have e0 : (zeroValue t).run P w = .ok z w := by simp [zeroValue, ztf_ hi, hz]
  have e1 : (fs.mapM (m := Sem) fun f => do pure (f.offset, ← sizeOf f.type)).run P w = .ok ps.toArray w := by
    rw [Array.mapM_eq_mapM_toList, Sem.run_map, run_places w fs.toList ps hs]
    rfl
  simp only [zy_, Instr.build, Sem.run_bind, e0, Result.andThen, run_underlying ht, e1, hf]
  rfl
end Go.Sh
namespace Go.Proofs.Ytegcjkhebecgbaa
open Go Go.Sh
end Go.Proofs.Ytegcjkhebecgbaa

namespace Go.Sh
open Go Go.ChangeShapes Go.WideShapes Go.ChangeAt Go.RowKit
theorem below_of_gr {w w' : World} (g : Gr w w') : Below w.heap.size w w' := ⟨g.os, g.tape, g.output, g.size, fun k hk => g.block k hk (by simp)⟩
theorem walk_of {P : Program} {g : FuncId} {args : List Value} {w : World} (h : ∀ k : Value → World → Prop, (∀ w', Gr w w' → k (.bool true) w') → CallK P g args k w) :
    Calls P g args.toArray w fun e w' => e = .returned (.bool true) ∧ Below w.heap.size w w' :=
  (h (fun v w' => v = .bool true ∧ Gr w w') (fun w' g => ⟨rfl, g⟩)).2.mono fun e w' he => by
    cases e with
    | returned v => exact ⟨by rw [he.1], below_of_gr he.2⟩
    | panicked c => exact he.elim
    | outgrown => exact he.elim

section
variable {H : Type} {enc : TypeId × Value → H} {P : Program} {w : World} {base : Nat} {spare : Nat → Bool} {held : Bool}
end
open Go Go.ChangeAt Go.ChangeShapes Go.WideShapes
section
variable {P : Program} {S : WS} {k : Value → Prop}
theorem bin_shr {t : TypeId} {c : Bool} {kd yk : IntKind} {x y : Int} (hy : 0 ≤ y) : Rd P S (sBin .shr t c (.int kd x) (.int yk y)) k = k (.int kd (x.fdiv (2 ^ (min y.toNat kd.bits)))) := zjc_ fun w _ => by
  simp only [sBin, Sem.run_bind, zfp_, Result.andThen]
  have : ¬ y < 0 := by omega
  simp [binOp, Op.shift, this]
theorem bin_and {t : TypeId} {c : Bool} {kd : IntKind} {x y : Int} : Rd P S (sBin .and t c (.int kd x) (.int kd y)) k = k (.int kd (kd.wrap ((BitVec.ofInt kd.bits x &&& BitVec.ofInt kd.bits y).toNat : Int))) := zye_ fun w => by
  simp [binOp, Op.intBits]
theorem run_convert {s d : TypeId} {kd kn : IntKind} {n : Int} {ds : TypeDesc} (hs : P.underlying s = some ds) (hd : P.underlying d = some (.int kd)) (w : World) : (zrf_ s d (.int kn n)).run P w = .ok (.value (.int kd (kd.wrap n))) w := by
  simp only [zrf_, convert, Sem.run_bind, run_underlying hs, run_underlying hd, Result.andThen]
  cases ds <;> simp [Conv.intToInt]
theorem zfi_ {k : Value → World → Prop} {s d : TypeId} {kd kn : IntKind} {n : Int} {ds : TypeDesc} {w : World} (hs : P.underlying s = some ds) (hd : P.underlying d = some (.int kd)) (h : k (.int kd (kd.wrap n)) w) : Do P (zrf_ s d (.int kn n)) k w := by
  rw [zje_ (run_convert hs hd w)]
  exact h
end
theorem and255 (x : Int) : 0 ≤ IntKind.u64.wrap ((BitVec.ofInt IntKind.u64.bits x &&& BitVec.ofInt IntKind.u64.bits 255).toNat : Int) ∧ IntKind.u64.wrap ((BitVec.ofInt IntKind.u64.bits x &&& BitVec.ofInt IntKind.u64.bits 255).toNat : Int) ≤ 255 := by
  have h : (BitVec.ofInt IntKind.u64.bits x &&& BitVec.ofInt IntKind.u64.bits 255).toNat ≤ 255 := by
    rw [BitVec.toNat_and]
    exact Nat.le_trans Nat.and_le_right (by decide)
  have e : IntKind.u64.wrap ((BitVec.ofInt IntKind.u64.bits x &&& BitVec.ofInt IntKind.u64.bits 255).toNat : Int) = ((BitVec.ofInt IntKind.u64.bits x &&& BitVec.ofInt IntKind.u64.bits 255).toNat : Int) := by
    generalize (BitVec.ofInt IntKind.u64.bits x &&& BitVec.ofInt IntKind.u64.bits 255).toNat = n at *
    simp [IntKind.wrap, IntKind.bits, IntKind.signed]
    omega
  rw [e]
  omega
structure Byts (w : World) (X : Option Addr) (bs : List Int) : Prop where
  le : bs.length ≤ 9223372036854775807
  ptr : 0 < bs.length → X = some (ad X)
  cell : ∀ j, j < bs.length → w.cell? ((ad X).add j) = some (.int .u8 (bs.getD j 0))
  small : ∀ j, j < bs.length → 0 ≤ bs.getD j 0 ∧ bs.getD j 0 ≤ 255
theorem Byts.gr {w w' : World} {X : Option Addr} {bs : List Int} (h : Byts w X bs) (g : Gr w w') : Byts w' X bs := ⟨h.le, h.ptr, fun j hj => g.cell (h.cell j hj), h.small⟩
section
variable {H : Type} {enc : TypeId × Value → H} {P : Program} {w : World} {base : Nat} {spare : Nat → Bool} {held : Bool}
theorem wf8 {n : Int} (h : (Lit.int .u8 n).wf = true) : 0 ≤ n ∧ n ≤ 255 := by
  simp [Lit.wf, show IntKind.u8.min = 0 from rfl, show IntKind.u8.max = 255 from rfl] at h
  exact h
theorem read_bytes {t e : TypeId} (ht : P.underlying t = some (.slice e)) (he : P.underlying e = some (.int .u8)) (hc : P.cellsOf e = 1) {fuel : Nat} {cs : List Value} {x : DataW H × List MemPlace}
    (h : DataW.trod enc P w base spare held fuel t cs = some x) : ∃ X n c bs, cs = [.slice X n c] ∧ n = bs.length ∧ n ≤ c ∧ Byts w X bs := by
  rcases open_ints ht he hc h with ⟨hcs, _⟩ | ⟨a, l, c, zs, hcs, _, hl, hm, hz, _, hcell, hwz⟩
  · exact ⟨none, 0, 0, [], hcs, rfl, Nat.le_refl _, by simp, fun h => by simp at h, fun j hj => by simp at hj, fun j hj => by simp at hj⟩
  · have hzl : l ≤ zs.length := by rw [hz]; split <;> omega
    have hget : ∀ j, j < (zs.take l).length → j < zs.length ∧ (zs.take l).getD j 0 = zs.getD j 0 := fun j hj => by
      have hj' : j < l ∧ j < zs.length := by simp at hj; omega
      exact ⟨hj'.2, by simp [List.getD_eq_getElem?_getD, List.getElem?_take, hj'.1]⟩
    refine ⟨some a, l, c, zs.take l, hcs, by simp; omega, hl, ?_, fun _ => rfl, fun j hj => ?_, fun j hj => ?_⟩
    · unfold maxLen at hm
      simp
      omega
    · obtain ⟨h1, h2⟩ := hget j hj
      rw [show (ad (some a)).add j = a.add j from rfl, hcell j h1, h2]
    · obtain ⟨h1, h2⟩ := hget j hj
      rw [h2]
      refine wf8 (hwz _ ?_)
      rw [List.getD_eq_getElem?_getD, List.getElem?_eq_getElem h1]
      exact List.getElem_mem h1
theorem zjm_ {t e : TypeId} {v : Value} {d : DataW H} {p : List MemPlace} (ht : P.underlying t = some (.slice e)) (he : P.underlying e = some (.int .u8)) (hc : P.cellsOf e = 1)
    (h : DataW.Trod enc P w base spare held t v d p) : ∃ X n c bs, v.cells.toList = [.slice X n c] ∧ n = bs.length ∧ n ≤ c ∧ Byts w X bs := by
  obtain ⟨fuel, hf⟩ := h
  exact read_bytes ht he hc hf
end
def curi (tc bc : Nat) (cv : Value) (N : Nat) : Thing := ⟨fun w => ∃ a s : Int, 0 ≤ a ∧ a ≤ N ∧ Box w bc [cv, .int .i64 a, .int .u64 s] tc, fun q => q = bc⟩
section
variable {w0 w : World} {L : List Thing} {tc bc N : Nat} {cv : Value}
theorem Apt.openCur (H : Apt w0 w L) (i : Nat) (hi : L[i]? = some (curi tc bc cv N)) : ∃ a s : Int, 0 ≤ a ∧ a ≤ N ∧ Apt w0 w (L.set i (bx bc [cv, .int .i64 a, .int .u64 s] tc)) := by
  obtain ⟨a, s, h1, h2, h3⟩ := H.get i hi
  exact ⟨a, s, h1, h2, H.set hi (it' := bx bc [cv, .int .i64 a, .int .u64 s] tc) (Gx.refl _ w) (fun q hq => .inl hq) (fun q hq => (H.ok i _ hi).hi q hq) (zxh_ h3)⟩
theorem Apt.shutCur (H : Apt w0 w L) (i : Nat) {a s : Int} (hi : L[i]? = some (bx bc [cv, .int .i64 a, .int .u64 s] tc)) (h1 : 0 ≤ a) (h2 : a ≤ N) : Apt w0 w (L.set i (curi tc bc cv N)) :=
  H.weaken i hi (fun q hq => hq) (fun w' _ hb => ⟨a, s, h1, h2, hb⟩) fun w' w'' hs ⟨a, s, h1, h2, h3⟩ => ⟨a, s, h1, h2, zxh_ h3 w'' hs⟩
end
end Go.Sh

namespace Go.Proofs.Ytegcjkhebecgbaa
open Go Go.Sh

def pl247 : Plans := fun i => match i with
  | 2 => ⟨false, [], .step 0 .any (.step 1 .any (.step 2 .any (.step 3 .held (.step 4 .any (.step 5 .any (.step 6 .any (.step 7 .held (.step 8 .any (.step 9 .any (.nil))))))))))⟩
  | 3 => ⟨false, [10], .step 0 .any (.step 1 .any (.step 2 .any (.step 3 .held (.step 4 .any (.step 5 .any (.step 6 .any (.step 7 .held (.step 8 .any (.step 9 .held (.step 10 .last (.step 11 .any (.nil))))))))))))⟩
  | 6 => ⟨false, [], .step 0 .any (.step 1 .any (.step 2 .any (.step 3 .held (.step 4 .any (.step 5 .any (.step 6 .any (.step 7 .held (.step 8 .any (.step 9 .any (.nil))))))))))⟩
  | _ => ⟨false, [], .nil⟩
def S247 (v0 : Value) (k : Value → World → Prop) (w : World) : Prop :=
 Join (fun K1 =>
 Rd Try.prog WS.any (zvb_ v0) fun t4 =>
 Rd Try.prog WS.any (za_ 114 t4 1) fun t5 =>
 Rd Try.prog (WS.at w.drew) (zc_ 3 t5) fun t6 =>
 Rd Try.prog WS.any (zvb_ v0) fun t7 =>
 Rd Try.prog WS.any (za_ 114 t7 0) fun t8 =>
 Rd Try.prog (WS.at w.drew) (zc_ 22 t8) fun t9 =>
 Rd Try.prog WS.any (ze_ .len #[22] 3 [false] [t9]) fun t10 =>
 Rd Try.prog WS.any (sBin .lss 3 false t6 t10) fun t11 =>
 zm_ t11
  (Rd Try.prog WS.any (zvb_ v0) fun t12 =>
  Rd Try.prog WS.any (za_ 114 t12 0) fun t13 =>
  Rd Try.prog (WS.at w.drew.drew) (zc_ 22 t13) fun t14 =>
  Rd Try.prog WS.any (zvb_ v0) fun t15 =>
  Rd Try.prog WS.any (za_ 114 t15 1) fun t16 =>
  Rd Try.prog (WS.at w.drew.drew) (zc_ 3 t16) fun t17 =>
  Rd Try.prog WS.any (zf_ 22 t14 t17) fun t18 =>
  Rd Try.prog (WS.at w.drew.drew) (zc_ 5 t18) fun t19 =>
  Do Try.prog (zrf_ 5 3 t19) (fun t20 w21 =>
  K1 (F.upd (F.upd (F.upd (F.upd (F.upd (F.upd (F.upd (F.upd (F.upd (F.upd (F.upd (F.upd (F.upd (F.upd (F.upd (F.upd (F.upd (F.upd (F.upd (F.upd (F.upd (F.upd (F.upd (F.upd (zp_ [v0]) 2 (.int .i64 0)) 3 (.int .i64 0)) 4 v0) 5 t4) 6 t5) 7 t6) 8 v0) 9 t7) 10 t8) 11 t9) 12 t10) 13 t11) 14 v0) 15 t12) 16 t13) 17 t14) 18 v0) 19 t15) 20 t16) 21 t17) 22 t18) 23 t19) 24 t20) 3 t20) w21) w.drew.drew)
  (K1 (F.upd (F.upd (F.upd (F.upd (F.upd (F.upd (F.upd (F.upd (F.upd (F.upd (F.upd (F.upd (zp_ [v0]) 2 (.int .i64 0)) 3 (.int .i64 0)) 4 v0) 5 t4) 6 t5) 7 t6) 8 v0) 9 t7) 10 t8) 11 t9) 12 t10) 13 t11) w.drew)) (fun f2 w3 =>
 Rd Try.prog (WS.at w3) (zvb_ (f2 0)) fun t22 =>
 Rd Try.prog (WS.at w3) (za_ 114 t22 1) fun t23 =>
 Rd Try.prog (WS.at w3) (zc_ 3 t23) fun t24 =>
 Rd Try.prog (WS.at w3) (sBin .add 3 true t24 (.int .i64 1)) fun t25 =>
 Rd Try.prog (WS.at w3) (zvb_ (f2 0)) fun t26 =>
 Rd Try.prog (WS.at w3) (za_ 114 t26 1) fun t27 =>
 Do Try.prog (zi_ 3 t27 t25) (fun _ w28 =>
 Rd Try.prog (WS.at w28) (zvb_ (f2 0)) fun t29 =>
 Rd Try.prog (WS.at w28) (za_ 114 t29 2) fun t30 =>
 Rd Try.prog (WS.at w28) (zc_ 112 t30) fun t31 =>
 Rd Try.prog (WS.at w28) (sBin .mul 112 true t31 (.int .u64 6364136223846793005)) fun t32 =>
 Do Try.prog (zrf_ 3 112 (f2 3)) (fun t33 w34 =>
 Rd Try.prog (WS.at w34) (sBin .add 112 false t32 t33) fun t35 =>
 Rd Try.prog (WS.at w34) (sBin .add 112 true t35 (.int .u64 1442695040888963407)) fun t36 =>
 Rd Try.prog (WS.at w34) (zvb_ (f2 0)) fun t37 =>
 Rd Try.prog (WS.at w34) (za_ 114 t37 2) fun t38 =>
 Do Try.prog (zi_ 112 t38 t36) (fun _ w39 =>
 Rd Try.prog WS.any (zvb_ (f2 0)) fun t40 =>
 Rd Try.prog WS.any (za_ 114 t40 1) fun t41 =>
 Rd Try.prog (WS.at w39.drew) (zc_ 3 t41) fun t42 =>
 Rd Try.prog WS.any (zvb_ (f2 0)) fun t43 =>
 Rd Try.prog WS.any (za_ 114 t43 0) fun t44 =>
 Rd Try.prog (WS.at w39.drew) (zc_ 22 t44) fun t45 =>
 Rd Try.prog WS.any (ze_ .len #[22] 3 [false] [t45]) fun t46 =>
 Rd Try.prog WS.any (sBin .leq 3 false t42 t46) fun t47 =>
 zm_ t47
  (k (f2 3) w39.drew)
  (Rd Try.prog (WS.at w39.drew) (zvb_ (f2 0)) fun t48 =>
  Rd Try.prog (WS.at w39.drew) (za_ 114 t48 2) fun t49 =>
  Rd Try.prog (WS.at w39.drew) (zc_ 112 t49) fun t50 =>
  Rd Try.prog (WS.at w39.drew) (sBin .shr 112 true t50 (.int .u64 40)) fun t51 =>
  Rd Try.prog (WS.at w39.drew) (sBin .and 112 true t51 (.int .u64 255)) fun t52 =>
  Do Try.prog (zrf_ 112 3 t52) (fun t53 w54 =>
  k t53 w54) w39.drew)) w34) w28) w3)
theorem body247 : Try.f247.body = some (zg_ Try.f247) := by kernel_rfl
theorem same247 (v0 : Value) (k : Value → World → Prop) (w : World) : wpF Try.prog pl247 (zg_ Try.f247) (zr_ Try.prog Try.f247.results.toList k) (zp_ [v0]) w = S247 v0 k w := by kernel_rfl
theorem enter247 {v0 : Value} {k : Value → World → Prop} {w : World} (h : S247 v0 k w) : CallK Try.prog 247 [v0] k w :=
  call_of_wpF (pl := pl247) mixed Try.func247 body247 (by kernel_rfl) (of_decide_eq_true (by kernel_rfl)) (by kernel_rfl) (by kernel_rfl) (Eq.mpr (same247 v0 k w) h)

def pl146 : Plans := fun _ => ⟨false, [], .nil⟩
def S146 (v0 v1 : Value) (k : Value → World → Prop) (w : World) : Prop :=
 Rd Try.prog (WS.at w) (sBin .leq 3 true v1 (.int .i64 1)) fun t1 =>
 zm_ t1
  (k (.int .i64 0) w)
  (CallK Try.prog 247 [v0] (fun t2 w3 =>
  Join (fun K4 =>
  Rd Try.prog (WS.at w3) (sBin .gtr 3 true v1 (.int .i64 200)) fun t7 =>
  zm_ t7
   (Rd Try.prog (WS.at w3) (sBin .mul 3 true t2 (.int .i64 256)) fun t8 =>
   CallK Try.prog 247 [v0] (fun t9 w10 =>
   Rd Try.prog (WS.at w10) (sBin .add 3 false t8 t9) fun t11 =>
   K4 (F.upd (F.upd (F.upd (F.upd (F.upd (F.upd (F.upd (F.upd (F.upd (F.upd (F.upd (F.upd (F.upd (F.upd (zp_ [v0, v1]) 4 (.int .i64 0)) 6 v1) 7 t1) 8 v0) 9 t2) 5 t2) 10 v1) 11 t7) 12 t2) 13 t8) 14 v0) 15 t9) 16 t11) 5 t11) w10) w3)
   (K4 (F.upd (F.upd (F.upd (F.upd (F.upd (F.upd (F.upd (F.upd (zp_ [v0, v1]) 4 (.int .i64 0)) 6 v1) 7 t1) 8 v0) 9 t2) 5 t2) 10 v1) 11 t7) w3)) (fun f5 w6 =>
  Rd Try.prog (WS.at w6) (sBin .rem 3 false (f5 5) (f5 1)) fun t12 =>
  k t12 w6)) w)
theorem body146 : Try.f146.body = some (zg_ Try.f146) := by kernel_rfl
theorem same146 (v0 v1 : Value) (k : Value → World → Prop) (w : World) : wpF Try.prog pl146 (zg_ Try.f146) (zr_ Try.prog Try.f146.results.toList k) (zp_ [v0, v1]) w = S146 v0 v1 k w := by kernel_rfl
theorem enter146 {v0 v1 : Value} {k : Value → World → Prop} {w : World} (h : S146 v0 v1 k w) : CallK Try.prog 146 [v0, v1] k w :=
  call_of_wpF (pl := pl146) mixed Try.func146 body146 (by kernel_rfl) (of_decide_eq_true (by kernel_rfl)) (by kernel_rfl) (by kernel_rfl) (Eq.mpr (same146 v0 v1 k w) h)

def pl176 : Plans := fun _ => ⟨false, [], .nil⟩
def S176 (v0 v1 : Value) (k : Value → World → Prop) (w : World) : Prop :=
 CallK Try.prog 146 [v0, v1] (fun t1 w2 =>
 Rd Try.prog (WS.at w2) (sBin .eql 3 true t1 (.int .i64 0)) fun t3 =>
 k t3 w2) w
theorem body176 : Try.f176.body = some (zg_ Try.f176) := by kernel_rfl
theorem same176 (v0 v1 : Value) (k : Value → World → Prop) (w : World) : wpF Try.prog pl176 (zg_ Try.f176) (zr_ Try.prog Try.f176.results.toList k) (zp_ [v0, v1]) w = S176 v0 v1 k w := by kernel_rfl
theorem enter176 {v0 v1 : Value} {k : Value → World → Prop} {w : World} (h : S176 v0 v1 k w) : CallK Try.prog 176 [v0, v1] k w :=
  call_of_wpF (pl := pl176) mixed Try.func176 body176 (by kernel_rfl) (of_decide_eq_true (by kernel_rfl)) (by kernel_rfl) (by kernel_rfl) (Eq.mpr (same176 v0 v1 k w) h)

def pl156 : Plans := fun _ => ⟨false, [], .nil⟩
def S156 (v0 v1 : Value) (k : Value → World → Prop) (w : World) : Prop :=
 Rd Try.prog (WS.at w) (ze_ .len #[27] 3 [false] [v1]) fun t1 =>
 CallK Try.prog 146 [v0, t1] (fun t2 w3 =>
 Rd Try.prog (WS.at w3) (zf_ 27 v1 t2) fun t4 =>
 Rd Try.prog (WS.at w3) (zc_ 3 t4) fun t5 =>
 k t5 w3) w
theorem body156 : Try.f156.body = some (zg_ Try.f156) := by kernel_rfl
theorem same156 (v0 v1 : Value) (k : Value → World → Prop) (w : World) : wpF Try.prog pl156 (zg_ Try.f156) (zr_ Try.prog Try.f156.results.toList k) (zp_ [v0, v1]) w = S156 v0 v1 k w := by kernel_rfl
theorem enter156 {v0 v1 : Value} {k : Value → World → Prop} {w : World} (h : S156 v0 v1 k w) : CallK Try.prog 156 [v0, v1] k w :=
  call_of_wpF (pl := pl156) mixed Try.func156 body156 (by kernel_rfl) (of_decide_eq_true (by kernel_rfl)) (by kernel_rfl) (by kernel_rfl) (Eq.mpr (same156 v0 v1 k w) h)

def pl303 : Plans := fun _ => ⟨false, [], .nil⟩
def S303 (v0 : Value) (k : Value → World → Prop) (w : World) : Prop :=
 Do Try.prog (zw_ 26) (fun t1 w2 =>
 CallK Try.prog 146 [v0, (.int .i64 8)] (fun t3 w4 =>
 Rd Try.prog (WS.at w4) (sBin .eql 3 true t3 (.int .i64 0)) fun t5 =>
 zm_ t5
  (Do Try.prog (zh_ 27 3 [(0, (.int .i64 (-1))), (1, (.int .i64 0)), (2, (.int .i64 (-2)))]) (fun t6 w7 =>
  Rd Try.prog (WS.at w7) (zy_ 33 [(1, t6)]) fun t8 =>
  Rd Try.prog (WS.at w7) (zy_ 33 []) fun t9 =>
  Do Try.prog (zh_ 24 2 [(0, t8), (1, t9)]) (fun t10 w11 =>
  Rd Try.prog (WS.at w11) (zy_ 26 [(0, (.int .i64 1)), (1, (.int .i64 2)), (2, t10)]) fun t12 =>
  Do Try.prog (zi_ 26 t1 t12) (fun _ w13 =>
  Rd Try.prog (WS.at w13) (zib_ 26 t1) fun t14 => k t14 w13) w11) w7) w4)
  (Rd Try.prog (WS.at w4) (sBin .eql 3 true t3 (.int .i64 1)) fun t15 =>
  zm_ t15
   (Do Try.prog (zh_ 27 2 [(0, (.int .i64 0)), (1, (.int .i64 0))]) (fun t16 w17 =>
   Rd Try.prog (WS.at w17) (zy_ 33 [(1, t16)]) fun t18 =>
   Do Try.prog (zh_ 27 3 [(0, (.int .i64 (-1))), (1, (.int .i64 0)), (2, (.int .i64 (-2)))]) (fun t19 w20 =>
   Rd Try.prog (WS.at w20) (zy_ 33 [(1, t19)]) fun t21 =>
   Do Try.prog (zh_ 27 2 [(0, (.int .i64 (-1))), (1, (.int .i64 (-2)))]) (fun t22 w23 =>
   Rd Try.prog (WS.at w23) (zy_ 33 [(1, t22)]) fun t24 =>
   Do Try.prog (zh_ 24 3 [(0, t18), (1, t21), (2, t24)]) (fun t25 w26 =>
   Rd Try.prog (WS.at w26) (zy_ 26 [(0, (.int .i64 1)), (1, (.int .i64 2)), (2, t25)]) fun t27 =>
   Do Try.prog (zi_ 26 t1 t27) (fun _ w28 =>
   Rd Try.prog (WS.at w28) (zib_ 26 t1) fun t29 => k t29 w28) w26) w23) w20) w17) w4)
   (Rd Try.prog (WS.at w4) (sBin .eql 3 true t3 (.int .i64 2)) fun t30 =>
   zm_ t30
    (Do Try.prog (zh_ 27 3 [(0, (.int .i64 0)), (1, (.int .i64 (-3))), (2, (.int .i64 1))]) (fun t31 w32 =>
    Rd Try.prog (WS.at w32) (zy_ 33 [(1, t31)]) fun t33 =>
    Do Try.prog (zh_ 27 1 [(0, (.int .i64 1))]) (fun t34 w35 =>
    Rd Try.prog (WS.at w35) (zy_ 33 [(1, t34)]) fun t36 =>
    Do Try.prog (zh_ 27 1 [(0, (.int .i64 (-1)))]) (fun t37 w38 =>
    Rd Try.prog (WS.at w38) (zy_ 33 [(0, (.int .i64 1)), (1, t37)]) fun t39 =>
    Do Try.prog (zh_ 27 3 [(0, (.int .i64 (-2))), (1, (.int .i64 0)), (2, (.int .i64 (-2)))]) (fun t40 w41 =>
    Rd Try.prog (WS.at w41) (zy_ 33 [(0, (.int .i64 1)), (1, t40)]) fun t42 =>
    Do Try.prog (zh_ 24 4 [(0, t33), (1, t36), (2, t39), (3, t42)]) (fun t43 w44 =>
    Rd Try.prog (WS.at w44) (zy_ 26 [(0, (.int .i64 2)), (1, (.int .i64 3)), (2, t43)]) fun t45 =>
    Do Try.prog (zi_ 26 t1 t45) (fun _ w46 =>
    Rd Try.prog (WS.at w46) (zib_ 26 t1) fun t47 => k t47 w46) w44) w41) w38) w35) w32) w4)
    (Rd Try.prog (WS.at w4) (sBin .eql 3 true t3 (.int .i64 3)) fun t48 =>
    zm_ t48
     (Do Try.prog (zh_ 27 2 [(0, (.int .i64 (-1))), (1, (.int .i64 1))]) (fun t49 w50 =>
     Rd Try.prog (WS.at w50) (zy_ 33 [(1, t49)]) fun t51 =>
     Do Try.prog (zh_ 27 2 [(0, (.int .i64 (-2))), (1, (.int .i64 1))]) (fun t52 w53 =>
     Rd Try.prog (WS.at w53) (zy_ 33 [(0, (.int .i64 1)), (1, t52)]) fun t54 =>
     Do Try.prog (zh_ 27 1 [(0, (.int .i64 (-2)))]) (fun t55 w56 =>
     Rd Try.prog (WS.at w56) (zy_ 33 [(0, (.int .i64 1)), (1, t55)]) fun t57 =>
     Rd Try.prog (WS.at w56) (zy_ 33 [(0, (.int .i64 1))]) fun t58 =>
     Do Try.prog (zh_ 24 4 [(0, t51), (1, t54), (2, t57), (3, t58)]) (fun t59 w60 =>
     Rd Try.prog (WS.at w60) (zy_ 26 [(0, (.int .i64 2)), (1, (.int .i64 2)), (2, t59)]) fun t61 =>
     Do Try.prog (zi_ 26 t1 t61) (fun _ w62 =>
     Rd Try.prog (WS.at w62) (zib_ 26 t1) fun t63 => k t63 w62) w60) w56) w53) w50) w4)
     (Rd Try.prog (WS.at w4) (sBin .eql 3 true t3 (.int .i64 4)) fun t64 =>
     zm_ t64
      (Do Try.prog (zh_ 27 1 [(0, (.int .i64 0))]) (fun t65 w66 =>
      Rd Try.prog (WS.at w66) (zy_ 33 [(1, t65)]) fun t67 =>
      Do Try.prog (zh_ 27 1 [(0, (.int .i64 1))]) (fun t68 w69 =>
      Rd Try.prog (WS.at w69) (zy_ 33 [(1, t68)]) fun t70 =>
      Do Try.prog (zh_ 27 2 [(0, (.int .i64 0)), (1, (.int .i64 1))]) (fun t71 w72 =>
      Rd Try.prog (WS.at w72) (zy_ 33 [(0, (.int .i64 1)), (1, t71)]) fun t73 =>
      Do Try.prog (zh_ 27 1 [(0, (.int .i64 (-1)))]) (fun t74 w75 =>
      Rd Try.prog (WS.at w75) (zy_ 33 [(0, (.int .i64 1)), (1, t74)]) fun t76 =>
      Rd Try.prog (WS.at w75) (zy_ 33 [(0, (.int .i64 1))]) fun t77 =>
      Do Try.prog (zh_ 24 5 [(0, t67), (1, t70), (2, t73), (3, t76), (4, t77)]) (fun t78 w79 =>
      Rd Try.prog (WS.at w79) (zy_ 26 [(0, (.int .i64 2)), (1, (.int .i64 1)), (2, t78)]) fun t80 =>
      Do Try.prog (zi_ 26 t1 t80) (fun _ w81 =>
      Rd Try.prog (WS.at w81) (zib_ 26 t1) fun t82 => k t82 w81) w79) w75) w72) w69) w66) w4)
      (Rd Try.prog (WS.at w4) (sBin .eql 3 true t3 (.int .i64 5)) fun t83 =>
      zm_ t83
       (Do Try.prog (zh_ 27 3 [(0, (.int .i64 (-1))), (1, (.int .i64 0)), (2, (.int .i64 (-1)))]) (fun t84 w85 =>
       Rd Try.prog (WS.at w85) (zy_ 33 [(1, t84)]) fun t86 =>
       Do Try.prog (zh_ 27 3 [(0, (.int .i64 (-2))), (1, (.int .i64 0)), (2, (.int .i64 (-2)))]) (fun t87 w88 =>
       Rd Try.prog (WS.at w88) (zy_ 33 [(1, t87)]) fun t89 =>
       Do Try.prog (zh_ 27 1 [(0, (.int .i64 (-1)))]) (fun t90 w91 =>
       Rd Try.prog (WS.at w91) (zy_ 33 [(1, t90)]) fun t92 =>
       Do Try.prog (zh_ 27 1 [(0, (.int .i64 (-2)))]) (fun t93 w94 =>
       Rd Try.prog (WS.at w94) (zy_ 33 [(1, t93)]) fun t95 =>
       Rd Try.prog (WS.at w94) (zy_ 33 []) fun t96 =>
       Do Try.prog (zh_ 24 5 [(0, t86), (1, t89), (2, t92), (3, t95), (4, t96)]) (fun t97 w98 =>
       Rd Try.prog (WS.at w98) (zy_ 26 [(0, (.int .i64 1)), (1, (.int .i64 2)), (2, t97)]) fun t99 =>
       Do Try.prog (zi_ 26 t1 t99) (fun _ w100 =>
       Rd Try.prog (WS.at w100) (zib_ 26 t1) fun t101 => k t101 w100) w98) w94) w91) w88) w85) w4)
       (Rd Try.prog (WS.at w4) (sBin .eql 3 true t3 (.int .i64 6)) fun t102 =>
       zm_ t102
        (Do Try.prog (zh_ 27 2 [(0, (.int .i64 1)), (1, (.int .i64 2))]) (fun t103 w104 =>
        Rd Try.prog (WS.at w104) (zy_ 33 [(1, t103)]) fun t105 =>
        Do Try.prog (zh_ 27 2 [(0, (.int .i64 (-1))), (1, (.int .i64 1))]) (fun t106 w107 =>
        Rd Try.prog (WS.at w107) (zy_ 33 [(0, (.int .i64 1)), (1, t106)]) fun t108 =>
        Rd Try.prog (WS.at w107) (zy_ 33 [(0, (.int .i64 1))]) fun t109 =>
        Do Try.prog (zh_ 27 2 [(0, (.int .i64 (-2))), (1, (.int .i64 2))]) (fun t110 w111 =>
        Rd Try.prog (WS.at w111) (zy_ 33 [(0, (.int .i64 2)), (1, t110)]) fun t112 =>
        Rd Try.prog (WS.at w111) (zy_ 33 [(0, (.int .i64 2))]) fun t113 =>
        Do Try.prog (zh_ 24 5 [(0, t105), (1, t108), (2, t109), (3, t112), (4, t113)]) (fun t114 w115 =>
        Rd Try.prog (WS.at w115) (zy_ 26 [(0, (.int .i64 3)), (1, (.int .i64 2)), (2, t114)]) fun t116 =>
        Do Try.prog (zi_ 26 t1 t116) (fun _ w117 =>
        Rd Try.prog (WS.at w117) (zib_ 26 t1) fun t118 => k t118 w117) w115) w111) w107) w104) w4)
        (Do Try.prog (zh_ 27 2 [(0, (.int .i64 0)), (1, (.int .i64 0))]) (fun t119 w120 =>
        Rd Try.prog (WS.at w120) (zy_ 33 [(1, t119)]) fun t121 =>
        Do Try.prog (zh_ 27 1 [(0, (.int .i64 (-1)))]) (fun t122 w123 =>
        Rd Try.prog (WS.at w123) (zy_ 33 [(1, t122)]) fun t124 =>
        Do Try.prog (zh_ 27 2 [(0, (.int .i64 (-2))), (1, (.int .i64 1))]) (fun t125 w126 =>
        Rd Try.prog (WS.at w126) (zy_ 33 [(0, (.int .i64 1)), (1, t125)]) fun t127 =>
        Do Try.prog (zh_ 24 3 [(0, t121), (1, t124), (2, t127)]) (fun t128 w129 =>
        Rd Try.prog (WS.at w129) (zy_ 26 [(0, (.int .i64 2)), (1, (.int .i64 2)), (2, t128)]) fun t130 =>
        Do Try.prog (zi_ 26 t1 t130) (fun _ w131 =>
        Rd Try.prog (WS.at w131) (zib_ 26 t1) fun t132 => k t132 w131) w129) w126) w123) w120) w4)))))))) w2) w
theorem body303 : Try.f303.body = some (zg_ Try.f303) := by kernel_rfl
theorem same303 (v0 : Value) (k : Value → World → Prop) (w : World) : wpF Try.prog pl303 (zg_ Try.f303) (zr_ Try.prog Try.f303.results.toList k) (zp_ [v0]) w = S303 v0 k w := by kernel_rfl
theorem enter303 {v0 : Value} {k : Value → World → Prop} {w : World} (h : S303 v0 k w) : CallK Try.prog 303 [v0] k w :=
  call_of_wpF (pl := pl303) mixed Try.func303 body303 (by kernel_rfl) (of_decide_eq_true (by kernel_rfl)) (by kernel_rfl) (by kernel_rfl) (Eq.mpr (same303 v0 k w) h)

def pl304 : Plans := fun _ => ⟨false, [], .nil⟩
def S304 (v0 v1 : Value) (k : Value → World → Prop) (w : World) : Prop :=
 Do Try.prog (sBox 33 v1) (fun t1 w2 =>
 Rd Try.prog (WS.at w2) (ze_ .len #[24] 3 [false] [v0]) fun t3 =>
 zrb_ [10, 11, 12, 6, 13, 14, 15, 16, 4, 17, 9] (fun Q4 f5 w6 =>
  Rd Try.prog (WS.at w6) (sBin .lss 3 false (f5 9) (f5 8)) fun t7 =>
  zm_ t7
   (Rd Try.prog (WS.at w6) (zf_ 24 (f5 7) (f5 9)) fun t8 =>
   Rd Try.prog (WS.at w6) (zc_ 33 t8) fun t9 =>
   Do Try.prog (zw_ 33) (fun t10 w11 =>
   Do Try.prog (zi_ 33 t10 t9) (fun _ w12 =>
   Rd Try.prog (WS.at w12) (zc_ 33 (f5 3)) fun t13 =>
   Rd Try.prog (WS.at w12) (zc_ 33 t10) fun t14 =>
   CallK Try.prog 239 [t13, t14] (fun t15 w16 =>
   zm_ t15
    (Q4 .ret (F.upd (F.upd (F.upd (F.upd (F.upd (F.upd (F.upd (F.upd (F.upd f5 10 t7) 11 t8) 12 t9) 6 t10) 13 t13) 14 t14) 15 t15) 16 (f5 0)) 4 (f5 0)) w16)
    (Rd Try.prog (WS.at w16) (sBin .add 3 true (f5 9) (.int .i64 1)) fun t17 =>
    Q4 .normal (F.upd (F.upd (F.upd (F.upd (F.upd (F.upd (F.upd (F.upd (F.upd f5 10 t7) 11 t8) 12 t9) 6 t10) 13 t13) 14 t14) 15 t15) 17 t17) 9 t17) w16)) w12) w11) w6)
   (Q4 (.exit 0) (F.upd f5 10 t7) w6))
  (zx_ 0 (seqQ (fun f18 w19 =>
 Rd Try.prog (WS.at w19) (zc_ 33 (f18 3)) fun t20 =>
 Do Try.prog (zh_ 24 1 [(0, t20)]) (fun t21 w22 =>
 Do Try.prog (ze_ .append #[24, 24] 24 [false, false] [(f18 0), t21]) (fun t23 w24 =>
 k t23 w24) w22) w19) (zr_ Try.prog [.tmp 4] k)))
  (F.upd (F.upd (F.upd (F.upd (F.upd (zp_ [v0, v1]) 3 t1) 4 (.slice none 0 0)) 7 v0) 8 t3) 9 (.int .i64 0)) w2) w
theorem body304 : Try.f304.body = some (zg_ Try.f304) := by kernel_rfl
theorem same304 (v0 v1 : Value) (k : Value → World → Prop) (w : World) : wpF Try.prog pl304 (zg_ Try.f304) (zr_ Try.prog Try.f304.results.toList k) (zp_ [v0, v1]) w = S304 v0 v1 k w := by kernel_rfl
theorem enter304 {v0 v1 : Value} {k : Value → World → Prop} {w : World} (h : S304 v0 v1 k w) : CallK Try.prog 304 [v0, v1] k w :=
  call_of_wpF (pl := pl304) mixed Try.func304 body304 (by kernel_rfl) (of_decide_eq_true (by kernel_rfl)) (by kernel_rfl) (by kernel_rfl) (Eq.mpr (same304 v0 v1 k w) h)

def pl246 : Plans := fun _ => ⟨false, [], .nil⟩
def S246 (v0 : Value) (k : Value → World → Prop) (w : World) : Prop :=
 Do Try.prog (zw_ 26) (fun t1 w2 =>
 CallK Try.prog 176 [v0, (.int .i64 2)] (fun t3 w4 =>
 zm_ t3
  (CallK Try.prog 303 [v0] (fun t5 w6 =>
  Do Try.prog (zi_ 26 t1 t5) (fun _ w7 =>
  Rd Try.prog (WS.at w7) (zib_ 26 t1) fun t8 => k t8 w7) w6) w4)
  (CallK Try.prog 146 [v0, (.int .i64 3)] (fun t9 w10 =>
  Rd Try.prog (WS.at w10) (sBin .add 3 true (.int .i64 1) t9) fun t11 =>
  CallK Try.prog 146 [v0, (.int .i64 2)] (fun t12 w13 =>
  Rd Try.prog (WS.at w13) (sBin .add 3 true (.int .i64 1) t12) fun t14 =>
  Rd Try.prog (WS.at w13) (zy_ 26 [(0, t11), (1, t14)]) fun t15 =>
  Do Try.prog (zw_ 26) (fun t16 w17 =>
  Do Try.prog (zi_ 26 t16 t15) (fun _ w18 =>
  CallK Try.prog 146 [v0, (.int .i64 6)] (fun t19 w20 =>
  Rd Try.prog (WS.at w20) (sBin .add 3 true (.int .i64 1) t19) fun t21 =>
  zrb_ [22, 23, 26, 27, 28, 29, 30, 5, 31, 32, 6, 33, 34, 37, 38, 39, 40, 7, 41, 42, 43, 44, 45, 46, 47, 7, 48, 49, 50, 51, 52, 53, 35, 36, 6, 54, 55, 56, 57, 58, 24, 25, 4] (fun Q22 f23 w24 =>
   Rd Try.prog (WS.at w24) (sBin .gtr 3 true (f23 4) (.int .i64 0)) fun t25 =>
   zm_ t25
    (Rd Try.prog (WS.at w24) (za_ 26 (f23 3) 0) fun t26 =>
    Rd Try.prog (WS.at w24) (zc_ 3 t26) fun t27 =>
    CallK Try.prog 146 [(f23 0), t27] (fun t28 w29 =>
    Rd Try.prog (WS.at w29) (zy_ 33 [(0, t28)]) fun t30 =>
    Do Try.prog (zw_ 33) (fun t31 w32 =>
    Do Try.prog (zi_ 33 t31 t30) (fun _ w33 =>
    CallK Try.prog 146 [(f23 0), (.int .i64 4)] (fun t34 w35 =>
    zrb_ [33, 34, 37, 38, 39, 40, 7, 41, 42, 43, 44, 45, 46, 47, 7, 48, 49, 50, 51, 52, 53, 35, 36, 6] (fun Q36 f37 w38 =>
     Rd Try.prog (WS.at w38) (sBin .gtr 3 true (f37 6) (.int .i64 0)) fun t39 =>
     zm_ t39
      (Join (fun K40 =>
      Rd Try.prog (WS.at w38) (za_ 26 (f37 3) 0) fun t43 =>
      Rd Try.prog (WS.at w38) (zc_ 3 t43) fun t44 =>
      CallK Try.prog 146 [(f37 0), t44] (fun t45 w46 =>
      Join (fun K47 =>
      CallK Try.prog 176 [(f37 0), (.int .i64 2)] (fun t50 w51 =>
      zm_ t50
       (Rd Try.prog (WS.at w51) (za_ 26 (f37 3) 1) fun t52 =>
       Rd Try.prog (WS.at w51) (zc_ 3 t52) fun t53 =>
       CallK Try.prog 146 [(f37 0), t53] (fun t54 w55 =>
       Rd Try.prog (WS.at w55) (sBin .sub 3 true (.int .i64 (-1)) t54) fun t56 =>
       K47 (F.upd (F.upd (F.upd (F.upd (F.upd (F.upd (F.upd (F.upd (F.upd (F.upd (F.upd (F.upd (F.upd (F.upd (F.upd f37 33 (f37 6)) 34 t39) 37 (f37 0)) 38 t43) 39 t44) 40 t45) 7 t45) 41 (f37 0)) 42 t50) 43 (f37 0)) 44 t52) 45 t53) 46 t54) 47 t56) 7 t56) w55) w51)
       (K47 (F.upd (F.upd (F.upd (F.upd (F.upd (F.upd (F.upd (F.upd (F.upd f37 33 (f37 6)) 34 t39) 37 (f37 0)) 38 t43) 39 t44) 40 t45) 7 t45) 41 (f37 0)) 42 t50) w51)) w46) (fun f48 w49 =>
      Rd Try.prog (WS.at w49) (za_ 33 (f48 5) 1) fun t57 =>
      Rd Try.prog (WS.at w49) (zc_ 27 t57) fun t58 =>
      Do Try.prog (zh_ 27 1 [(0, (f48 7))]) (fun t59 w60 =>
      Do Try.prog (ze_ .append #[27, 27] 27 [false, false] [t58, t59]) (fun t61 w62 =>
      Rd Try.prog (WS.at w62) (za_ 33 (f48 5) 1) fun t63 =>
      Do Try.prog (zi_ 27 t63 t61) (fun _ w64 =>
      K40 (F.upd (F.upd (F.upd (F.upd (F.upd (F.upd f48 48 t57) 49 t58) 50 (f48 7)) 51 t59) 52 t61) 53 t63) w64) w62) w60) w49)) w38) (fun f41 w42 =>
      Rd Try.prog (WS.at w42) (sBin .sub 3 true (f41 6) (.int .i64 1)) fun t65 =>
      Q36 .normal (F.upd (F.upd (F.upd f41 35 (f41 6)) 36 t65) 6 t65) w42))
      (Q36 (.exit 2) (F.upd (F.upd f37 33 (f37 6)) 34 t39) w38))
     (zx_ 2 (seqQ (fun f66 w67 =>
    Rd Try.prog (WS.at w67) (za_ 26 (f66 3) 2) fun t68 =>
    Rd Try.prog (WS.at w67) (zc_ 24 t68) fun t69 =>
    Rd Try.prog (WS.at w67) (zc_ 33 (f66 5)) fun t70 =>
    CallK Try.prog 304 [t69, t70] (fun t71 w72 =>
    Rd Try.prog (WS.at w72) (za_ 26 (f66 3) 2) fun t73 =>
    Do Try.prog (zi_ 24 t73 t71) (fun _ w74 =>
    Rd Try.prog (WS.at w74) (sBin .sub 3 true (f66 4) (.int .i64 1)) fun t75 =>
    Q22 .normal (F.upd (F.upd (F.upd (F.upd (F.upd (F.upd (F.upd (F.upd f66 54 t68) 55 t69) 56 t70) 57 t71) 58 t73) 24 (f66 4)) 25 t75) 4 t75) w74) w72) w67) (zx_ 1 (seqQ (fun f76 w77 =>
    Rd Try.prog (WS.at w77) (sBin .sub 3 true (f76 4) (.int .i64 1)) fun t78 =>
    Q22 .normal (F.upd (F.upd (F.upd f76 24 (f76 4)) 25 t78) 4 t78) w77) Q22))))
     (F.upd (F.upd (F.upd (F.upd (F.upd (F.upd (F.upd (F.upd (F.upd (F.upd (F.upd f23 22 (f23 4)) 23 t25) 26 (f23 0)) 27 t26) 28 t27) 29 t28) 30 t30) 5 t31) 31 (f23 0)) 32 t34) 6 t34) w35) w33) w32) w29) w24)
    (Q22 (.exit 0) (F.upd (F.upd f23 22 (f23 4)) 23 t25) w24))
   (zx_ 0 (seqQ (fun f79 w80 =>
  Rd Try.prog (WS.at w80) (zc_ 26 (f79 3)) fun t81 =>
  Do Try.prog (zi_ 26 (f79 2) t81) (fun _ w82 =>
  Rd Try.prog (WS.at w82) (zib_ 26 (f79 2)) fun t83 => k t83 w82) w80) (zr_ Try.prog [.cell 2 26] k)))
   (F.upd (F.upd (F.upd (F.upd (F.upd (F.upd (F.upd (F.upd (F.upd (F.upd (F.upd (F.upd (F.upd (F.upd (F.upd (zp_ [v0]) 2 t1) 8 v0) 9 t3) 12 v0) 13 t9) 14 t11) 15 v0) 16 t12) 17 t14) 18 t15) 3 t16) 19 v0) 20 t19) 21 t21) 4 t21) w20) w18) w17) w13) w10) w4)) w2) w
theorem body246 : Try.f246.body = some (zg_ Try.f246) := by kernel_rfl
theorem same246 (v0 : Value) (k : Value → World → Prop) (w : World) : wpF Try.prog pl246 (zg_ Try.f246) (zr_ Try.prog Try.f246.results.toList k) (zp_ [v0]) w = S246 v0 k w := by kernel_rfl
theorem enter246 {v0 : Value} {k : Value → World → Prop} {w : World} (h : S246 v0 k w) : CallK Try.prog 246 [v0] k w :=
  call_of_wpF (pl := pl246) mixed Try.func246 body246 (by kernel_rfl) (of_decide_eq_true (by kernel_rfl)) (by kernel_rfl) (by kernel_rfl) (Eq.mpr (same246 v0 k w) h)

def pl145 : Plans := fun i => match i with
  | 8 => ⟨true, [7, 9], .step 0 .any (.step 1 .held (.step 2 .any (.step 3 .held (.step 4 .any (.step 5 .held (.step 6 .one (.step 7 .last (.step 8 .any (.step 9 .last (.nil))))))))))⟩
  | 10 => ⟨true, [7], .step 0 .any (.step 1 .held (.step 2 .any (.step 3 .one (.step 4 .any (.step 5 .any (.step 6 .any (.step 7 .last (.nil))))))))⟩
  | _ => ⟨false, [], .nil⟩
def S145 (v0 : Value) (k : Value → World → Prop) (w : World) : Prop :=
 Do Try.prog (zw_ 26) (fun t1 w2 =>
 CallK Try.prog 246 [v0] (fun t3 w4 =>
 Do Try.prog (zw_ 26) (fun t5 w6 =>
 Do Try.prog (zi_ 26 t5 t3) (fun _ w7 =>
 Join (fun K8 =>
 CallK Try.prog 146 [v0, (.int .i64 40)] (fun t11 w12 =>
 Rd Try.prog (WS.at w12) (sBin .eql 3 true t11 (.int .i64 0)) fun t13 =>
 zm_ t13
  (Do Try.prog (zh_ 27 3 [(0, (.int .i64 0)), (1, (.int .i64 6)), (2, (.int .i64 7))]) (fun t14 w15 =>
  CallK Try.prog 156 [v0, t14] (fun t16 w17 =>
  Rd Try.prog (WS.at w17) (za_ 26 t5 0) fun t18 =>
  Do Try.prog (zi_ 3 t18 t16) (fun _ w19 =>
  K8 (F.upd (F.upd (F.upd (F.upd (F.upd (F.upd (F.upd (F.upd (F.upd (F.upd (F.upd (F.upd (zp_ [v0]) 2 t1) 4 v0) 5 t3) 3 t5) 6 v0) 7 t11) 9 t13) 8 t13) 10 v0) 11 t14) 12 t16) 13 t18) w19) w17) w15) w12)
  (Rd Try.prog (WS.at w12) (sBin .eql 3 true t11 (.int .i64 1)) fun t20 =>
  zm_ t20
   (Do Try.prog (zh_ 27 3 [(0, (.int .i64 0)), (1, (.int .i64 4)), (2, (.int .i64 5))]) (fun t21 w22 =>
   CallK Try.prog 156 [v0, t21] (fun t23 w24 =>
   Rd Try.prog (WS.at w24) (za_ 26 t5 1) fun t25 =>
   Do Try.prog (zi_ 3 t25 t23) (fun _ w26 =>
   K8 (F.upd (F.upd (F.upd (F.upd (F.upd (F.upd (F.upd (F.upd (F.upd (F.upd (F.upd (F.upd (F.upd (F.upd (zp_ [v0]) 2 t1) 4 v0) 5 t3) 3 t5) 6 v0) 7 t11) 9 t13) 8 t13) 15 t20) 14 t20) 16 v0) 17 t21) 18 t23) 19 t25) w26) w24) w22) w12)
   (Rd Try.prog (WS.at w12) (sBin .eql 3 true t11 (.int .i64 2)) fun t27 =>
   zm_ t27
    (∃ U28 : World → Prop, ∃ h29 : U28 w12.drew,
    Rd Try.prog WS.any (za_ 26 t5 2) fun t30 =>
    Rd Try.prog ⟨U28, w12.drew, h29⟩ (zc_ 24 t30) fun t31 =>
    Rd Try.prog WS.any (za_ 26 t5 2) fun t32 =>
    Rd Try.prog ⟨U28, w12.drew, h29⟩ (zc_ 24 t32) fun t33 =>
    Rd Try.prog WS.any (zf_ 24 t33 (.int .i64 0)) fun t34 =>
    Rd Try.prog ⟨U28, w12.drew, h29⟩ (zc_ 33 t34) fun t35 =>
    Do Try.prog (zh_ 24 1 [(0, t35)]) (fun t36 w37 =>
    U28 w37 ∧ Do Try.prog (ze_ .append #[24, 24] 24 [false, false] [t31, t36]) (fun t38 w39 =>
    Rd Try.prog WS.any (za_ 26 t5 2) fun t40 =>
    Do Try.prog (zi_ 24 t40 t38) (fun _ w41 =>
    K8 (F.upd (F.upd (F.upd (F.upd (F.upd (F.upd (F.upd (F.upd (F.upd (F.upd (F.upd (F.upd (F.upd (F.upd (F.upd (F.upd (F.upd (F.upd (F.upd (F.upd (F.upd (zp_ [v0]) 2 t1) 4 v0) 5 t3) 3 t5) 6 v0) 7 t11) 9 t13) 8 t13) 15 t20) 14 t20) 21 t27) 20 t27) 22 t30) 23 t31) 24 t32) 25 t33) 26 t34) 27 t35) 28 t36) 29 t38) 30 t40) w41) w39) w37) w12.drew)
    (Rd Try.prog (WS.at w12) (sBin .eql 3 true t11 (.int .i64 3)) fun t42 =>
    zm_ t42
     (∃ U43 : World → Prop, ∃ h44 : U43 w12.drew,
     Rd Try.prog WS.any (za_ 26 t5 2) fun t45 =>
     Rd Try.prog ⟨U43, w12.drew, h44⟩ (zc_ 24 t45) fun t46 =>
     CallK Try.prog 146 [v0, (.int .i64 8)] (fun t47 w48 =>
     U43 w48 ∧ Rd Try.prog WS.any (sBin .sub 3 true t47 (.int .i64 1)) fun t49 =>
     Rd Try.prog WS.any (zf_ 24 t46 (.int .i64 0)) fun t50 =>
     Rd Try.prog WS.any (za_ 33 t50 0) fun t51 =>
     Do Try.prog (zi_ 3 t51 t49) (fun _ w52 =>
     K8 (F.upd (F.upd (F.upd (F.upd (F.upd (F.upd (F.upd (F.upd (F.upd (F.upd (F.upd (F.upd (F.upd (F.upd (F.upd (F.upd (F.upd (F.upd (F.upd (F.upd (F.upd (zp_ [v0]) 2 t1) 4 v0) 5 t3) 3 t5) 6 v0) 7 t11) 9 t13) 8 t13) 15 t20) 14 t20) 21 t27) 20 t27) 32 t42) 31 t42) 33 t45) 34 t46) 35 v0) 36 t47) 37 t49) 38 t50) 39 t51) w52) w48) w12.drew)
     (K8 (F.upd (F.upd (F.upd (F.upd (F.upd (F.upd (F.upd (F.upd (F.upd (F.upd (F.upd (F.upd (F.upd (F.upd (zp_ [v0]) 2 t1) 4 v0) 5 t3) 3 t5) 6 v0) 7 t11) 9 t13) 8 t13) 15 t20) 14 t20) 21 t27) 20 t27) 32 t42) 31 t42) w12))))) w7) (fun f9 w10 =>
 Rd Try.prog (WS.at w10) (zc_ 26 (f9 3)) fun t53 =>
 Do Try.prog (zi_ 26 (f9 2) t53) (fun _ w54 =>
 Rd Try.prog (WS.at w54) (zib_ 26 (f9 2)) fun t55 => k t55 w54) w10)) w6) w4) w2) w
theorem body145 : Try.f145.body = some (zg_ Try.f145) := by kernel_rfl
theorem same145 (v0 : Value) (k : Value → World → Prop) (w : World) : wpF Try.prog pl145 (zg_ Try.f145) (zr_ Try.prog Try.f145.results.toList k) (zp_ [v0]) w = S145 v0 k w := by kernel_rfl
theorem enter145 {v0 : Value} {k : Value → World → Prop} {w : World} (h : S145 v0 k w) : CallK Try.prog 145 [v0] k w :=
  call_of_wpF (pl := pl145) mixed Try.func145 body145 (by kernel_rfl) (of_decide_eq_true (by kernel_rfl)) (by kernel_rfl) (by kernel_rfl) (Eq.mpr (same145 v0 k w) h)

def pl218 : Plans := fun _ => ⟨false, [], .nil⟩
def S218 (v0 v1 v2 : Value) (k : Value → World → Prop) (w : World) : Prop :=
 Do Try.prog (sBox 26 v1) (fun t1 w2 =>
 Rd Try.prog (WS.at w2) (sBin .add 3 true v2 (.int .i64 1)) fun t3 =>
 CallK Try.prog 146 [v0, t3] (fun t4 w5 =>
 zrb_ [13, 14, 17, 18, 19, 20, 21, 22, 23, 24, 7, 15, 16, 8] (fun Q6 f7 w8 =>
  Rd Try.prog (WS.at w8) (sBin .gtr 3 true (f7 8) (.int .i64 0)) fun t9 =>
  zm_ t9
   (Rd Try.prog (WS.at w8) (za_ 26 (f7 4) 1) fun t10 =>
   Rd Try.prog (WS.at w8) (zc_ 3 t10) fun t11 =>
   CallK Try.prog 159 [(.int .i64 1), t11] (fun t12 w13 =>
   CallK Try.prog 146 [(f7 0), t12] (fun t14 w15 =>
   Do Try.prog (zh_ 27 1 [(0, t14)]) (fun t16 w17 =>
   Do Try.prog (ze_ .append #[27, 27] 27 [false, false] [(f7 7), t16]) (fun t18 w19 =>
   Rd Try.prog (WS.at w19) (sBin .sub 3 true (f7 8) (.int .i64 1)) fun t20 =>
   Q6 .normal (F.upd (F.upd (F.upd (F.upd (F.upd (F.upd (F.upd (F.upd (F.upd (F.upd (F.upd (F.upd (F.upd (F.upd f7 13 (f7 8)) 14 t9) 17 (f7 7)) 18 (f7 0)) 19 t10) 20 t11) 21 t12) 22 t14) 23 t16) 24 t18) 7 t18) 15 (f7 8)) 16 t20) 8 t20) w19) w17) w15) w13) w8)
   (Q6 (.exit 0) (F.upd (F.upd f7 13 (f7 8)) 14 t9) w8))
  (zx_ 0 (seqQ (fun f21 w22 =>
 Join (fun K23 =>
 Rd Try.prog (WS.at w22) (ze_ .len #[27] 3 [false] [(f21 7)]) fun t26 =>
 Rd Try.prog (WS.at w22) (sBin .gtr 3 true t26 (.int .i64 0)) fun t27 =>
 zb_ t27 true (fun k w' => k (f21 0) w') (fun t28 w29 =>
 zb_ t27 true (fun k w' => CallK Try.prog 176 [t28, (.int .i64 60)] k w') (fun t30 w31 =>
 Rd Try.prog (WS.at w31) (zeb_ t27 t30 (.bool false)) fun t32 =>
 zm_ t32
  (Do Try.prog (zh_ 27 2 [(0, (.int .i64 (-1))), (1, (.int .i64 4))]) (fun t33 w34 =>
  CallK Try.prog 156 [(f21 0), t33] (fun t35 w36 =>
  Rd Try.prog (WS.at w36) (zf_ 27 (f21 7) (.int .i64 0)) fun t37 =>
  Do Try.prog (zi_ 3 t37 t35) (fun _ w38 =>
  K23 (F.upd (F.upd (F.upd (F.upd (F.upd (F.upd (F.upd (F.upd (F.upd (F.upd (F.upd (F.upd f21 25 (f21 7)) 26 t26) 27 t27) 28 t27) 29 t28) 30 t30) 31 t32) 32 (f21 7)) 33 (f21 0)) 34 t33) 35 t35) 36 t37) w38) w36) w34) w31)
  (K23 (F.upd (F.upd (F.upd (F.upd (F.upd (F.upd (F.upd f21 25 (f21 7)) 26 t26) 27 t27) 28 t27) 29 t28) 30 t30) 31 t32) w31)) w29) w22) (fun f24 w25 =>
 k (f24 7) w25)) (zr_ Try.prog [.tmp 6] k)))
  (F.upd (F.upd (F.upd (F.upd (F.upd (F.upd (F.upd (F.upd (zp_ [v0, v1, v2]) 4 t1) 6 (.slice none 0 0)) 7 (.slice none 0 0)) 9 v0) 10 v2) 11 t3) 12 t4) 8 t4) w5) w2) w
theorem body218 : Try.f218.body = some (zg_ Try.f218) := by kernel_rfl
theorem same218 (v0 v1 v2 : Value) (k : Value → World → Prop) (w : World) : wpF Try.prog pl218 (zg_ Try.f218) (zr_ Try.prog Try.f218.results.toList k) (zp_ [v0, v1, v2]) w = S218 v0 v1 v2 k w := by kernel_rfl
theorem enter218 {v0 v1 v2 : Value} {k : Value → World → Prop} {w : World} (h : S218 v0 v1 v2 k w) : CallK Try.prog 218 [v0, v1, v2] k w :=
  call_of_wpF (pl := pl218) mixed Try.func218 body218 (by kernel_rfl) (of_decide_eq_true (by kernel_rfl)) (by kernel_rfl) (by kernel_rfl) (Eq.mpr (same218 v0 v1 v2 k w) h)

def pl147 : Plans := fun _ => ⟨false, [], .nil⟩
def S147 (v0 v1 : Value) (k : Value → World → Prop) (w : World) : Prop :=
 Do Try.prog (sBox 26 v1) (fun t1 w2 =>
 Rd Try.prog (WS.at w2) (zc_ 26 t1) fun t3 =>
 CallK Try.prog 24 [t3, (.int .i64 3)] (fun t4 w5 =>
 Rd Try.prog (WS.at w5) (zbb_ t4 0) fun t6 =>
 Rd Try.prog (WS.at w5) (zbb_ t4 1) fun t7 =>
 zb_ t7 true (fun k w' => k t6 w') (fun t8 w9 =>
 zb_ t7 true (fun k w' => Rd Try.prog (WS.at w9) (ze_ .len #[35] 3 [false] [t8]) fun v => k v w') (fun t10 w11 =>
 zb_ t7 true (fun k w' => Rd Try.prog (WS.at w11) (sBin .gtr 3 true t10 (.int .i64 0)) fun v => k v w') (fun t12 w13 =>
 Rd Try.prog (WS.at w13) (zeb_ t7 t12 (.bool false)) fun t14 =>
 zb_ t14 true (fun k w' => k v0 w') (fun t15 w16 =>
 zb_ t14 true (fun k w' => CallK Try.prog 176 [t15, (.int .i64 2)] k w') (fun t17 w18 =>
 Rd Try.prog (WS.at w18) (zeb_ t14 t17 (.bool false)) fun t19 =>
 zm_ t19
  (Rd Try.prog (WS.at w18) (ze_ .len #[35] 3 [false] [t6]) fun t20 =>
  CallK Try.prog 146 [v0, t20] (fun t21 w22 =>
  Rd Try.prog (WS.at w22) (zf_ 35 t6 t21) fun t23 =>
  Rd Try.prog (WS.at w22) (zc_ 27 t23) fun t24 =>
  CallK Try.prog 158 [t24] (fun t25 w26 =>
  Join (fun K27 =>
  CallK Try.prog 176 [v0, (.int .i64 3)] (fun t30 w31 =>
  zm_ t30
   (Do Try.prog (ze_ .append #[27, 27] 27 [false, false] [t25, t25]) (fun t32 w33 =>
   K27 (F.upd (F.upd (F.upd (F.upd (F.upd (F.upd (F.upd (F.upd (F.upd (F.upd (F.upd (F.upd (F.upd (F.upd (F.upd (F.upd (F.upd (F.upd (F.upd (F.upd (F.upd (F.upd (F.upd (F.upd (F.upd (F.upd (F.upd (F.upd (F.upd (F.upd (F.upd (F.upd (F.upd (F.upd (zp_ [v0, v1]) 3 t1) 4 (.slice none 0 0)) 9 t3) 10 t4) 8 t4) 11 t6) 12 t7) 5 t6) 6 t7) 13 t7) 14 t7) 15 t8) 16 t10) 17 t12) 18 t14) 19 t14) 20 t15) 21 t17) 22 t19) 23 t6) 24 v0) 25 t6) 26 t20) 27 t21) 28 t23) 29 t24) 30 t25) 7 t25) 31 v0) 32 t30) 33 t25) 34 t25) 35 t32) 7 t32) w33) w31)
   (K27 (F.upd (F.upd (F.upd (F.upd (F.upd (F.upd (F.upd (F.upd (F.upd (F.upd (F.upd (F.upd (F.upd (F.upd (F.upd (F.upd (F.upd (F.upd (F.upd (F.upd (F.upd (F.upd (F.upd (F.upd (F.upd (F.upd (F.upd (F.upd (F.upd (F.upd (zp_ [v0, v1]) 3 t1) 4 (.slice none 0 0)) 9 t3) 10 t4) 8 t4) 11 t6) 12 t7) 5 t6) 6 t7) 13 t7) 14 t7) 15 t8) 16 t10) 17 t12) 18 t14) 19 t14) 20 t15) 21 t17) 22 t19) 23 t6) 24 v0) 25 t6) 26 t20) 27 t21) 28 t23) 29 t24) 30 t25) 7 t25) 31 v0) 32 t30) w31)) w26) (fun f28 w29 =>
  k (f28 7) w29)) w22) w18)
  (Rd Try.prog (WS.at w18) (zc_ 26 t1) fun t34 =>
  CallK Try.prog 218 [v0, t34, (.int .i64 5)] (fun t35 w36 =>
  k t35 w36) w18)) w16) w13) w11) w9) w5) w2) w
theorem body147 : Try.f147.body = some (zg_ Try.f147) := by kernel_rfl
theorem same147 (v0 v1 : Value) (k : Value → World → Prop) (w : World) : wpF Try.prog pl147 (zg_ Try.f147) (zr_ Try.prog Try.f147.results.toList k) (zp_ [v0, v1]) w = S147 v0 v1 k w := by kernel_rfl
theorem enter147 {v0 v1 : Value} {k : Value → World → Prop} {w : World} (h : S147 v0 v1 k w) : CallK Try.prog 147 [v0, v1] k w :=
  call_of_wpF (pl := pl147) mixed Try.func147 body147 (by kernel_rfl) (of_decide_eq_true (by kernel_rfl)) (by kernel_rfl) (by kernel_rfl) (Eq.mpr (same147 v0 v1 k w) h)

open Go Go.Sh Go.RowKit
abbrev TC : Nat := 114
abbrev cur (bc : Nat) (cv : Value) (N : Nat) : Thing := curi TC bc cv N
section
variable {w0 w : World} {L : List Thing} {bc N : Nat} {C : Option Addr} {cap : Nat} {bs : List Int} {k : Value → World → Prop}
theorem zgg_ {i : Nat} {a b : Thing} : (L.set i a).set i b = L.set i b := List.set_set ..
theorem zhg_ {i : Nat} {a it : Thing} (hi : L[i]? = some it) : (L.set i a)[i]? = some a := by
  rw [List.getElem?_set, if_pos rfl, if_pos (get_lt hi)]
set_option maxHeartbeats 1600000 in
theorem next_c (H : Apt w0 w L) (i : Nat) (hi : L[i]? = some (cur bc (.slice C bs.length cap) N)) (hC : Byts w0 C bs) (hN : N ≤ 1000000000) (hk : ∀ w' (b : Int), 0 ≤ b → b ≤ 255 → Apt w0 w' (L.set i (cur bc (.slice C bs.length cap) (N + 1))) → k (.int .i64 b) w') :
    CallK Try.prog 247 [ptrv bc] k w := by
  refine enter247 ?_
  unfold S247
  obtain ⟨a, s, h0, h1, H⟩ := H.openCur i hi
  have hi1 := zhg_ (a := bx bc [.slice C bs.length cap, .int .i64 a, .int .u64 s] TC) hi
  have hle := hC.le
  refine zmd_ (fun f w' => f 0 = ptrv bc ∧ (∃ b : Int, 0 ≤ b ∧ b ≤ 255 ∧ f 3 = .int .i64 b) ∧ Apt w0 w' (L.set i (bx bc [.slice C bs.length cap, .int .i64 a, .int .u64 s] TC))) (fun K hK => ?_) ?_
  · have H := H.drew
    simp only [zq18, zq19, zq20, zq21, zq22, zq23, zq24, zq25, zq26, zq27, zq28, zq4, zq3, zq1, zq2, zq0, zq29, zq30, zq14, zq15, zq16, zq17, zq13, zq10, zq12, zq11, zq7, zq5, zq6, zq9, zq8, zq31, zq32, ite_T, ite_F, zq33, zq34, zq35, Nat.reduceEqDiff, len22, len24, fa26_0, fa26_1, fa26_2, len27, fa33_0, fa33_1, len35, fa114_0, fa114_1, fa114_2, fa124_0, fa124_1, len134]
    rw [ldB3 (H.box i hi1) rfl]
    rw [ldB22 (H.box i hi1) rfl]
    simp only [zq18, zq19, zq20, zq21, zq22, zq23, zq24, zq25, zq26, zq27, zq28, zq4, zq3, zq1, zq2, zq0, zq29, zq30, zq14, zq15, zq16, zq17, zq13, zq10, zq12, zq11, zq7, zq5, zq6, zq9, zq8, zq31, zq32, ite_T, ite_F, zq33, zq34, zq35, Nat.reduceEqDiff, len22, len24, fa26_0, fa26_1, fa26_2, len27, fa33_0, fa33_1, len35, fa114_0, fa114_1, fa114_2, fa124_0, fa124_1, len134]
    by_cases hlt : a < bs.length
    · simp only [hlt, decide_true, zq18, zq19, zq20, zq21, zq22, zq23, zq24, zq25, zq26, zq27, zq28, zq4, zq3, zq1, zq2, zq0, zq29, zq30, zq14, zq15, zq16, zq17, zq13, zq10, zq12, zq11, zq7, zq5, zq6, zq9, zq8, zq31, zq32, ite_T, ite_F, zq33, zq34, zq35, Nat.reduceEqDiff, len22, len24, fa26_0, fa26_1, fa26_2, len27, fa33_0, fa33_1, len35, fa114_0, fa114_1, fa114_2, fa124_0, fa124_1, len134]
      have H := H.drew
      rw [ldB22 (H.box i hi1) rfl]
      rw [ldB3 (H.box i hi1) rfl]
      obtain ⟨m, rfl⟩ : ∃ m : Nat, a = m := ⟨a.toNat, by omega⟩
      have hm : m < bs.length := by omega
      refine rdi (ixn22 hC.ptr hm) (rdi (ld5 ((hC.gr H.gr).cell m hm)) ?_)
      refine zfi_ Try.underlying5 Try.underlying3 ?_
      have hs := hC.small m hm
      rw [zt_ (by omega) (by omega)]
      exact hK _ _ ⟨rfl, ⟨_, hs.1, hs.2, rfl⟩, H⟩
    · simp only [hlt, decide_false, zq18, zq19, zq20, zq21, zq22, zq23, zq24, zq25, zq26, zq27, zq28, zq4, zq3, zq1, zq2, zq0, zq29, zq30, zq14, zq15, zq16, zq17, zq13, zq10, zq12, zq11, zq7, zq5, zq6, zq9, zq8, zq31, zq32, ite_T, ite_F, zq33, zq34, zq35, Nat.reduceEqDiff, len22, len24, fa26_0, fa26_1, fa26_2, len27, fa33_0, fa33_1, len35, fa114_0, fa114_1, fa114_2, fa124_0, fa124_1, len134]
      exact hK _ _ ⟨rfl, ⟨0, by omega, by omega, rfl⟩, H⟩
  · clear H
    rintro f w1 ⟨f0, ⟨b, hb0, hb1, f3⟩, H⟩
    simp only [f0, f3, zq18, zq19, zq20, zq21, zq22, zq23, zq24, zq25, zq26, zq27, zq28, zq4, zq3, zq1, zq2, zq0, zq29, zq30, zq14, zq15, zq16, zq17, zq13, zq10, zq12, zq11, zq7, zq5, zq6, zq9, zq8, zq31, zq32, ite_T, ite_F, zq33, zq34, zq35, Nat.reduceEqDiff, len22, len24, fa26_0, fa26_1, fa26_2, len27, fa33_0, fa33_1, len35, fa114_0, fa114_1, fa114_2, fa124_0, fa124_1, len134]
    rw [ldB3 (H.box i hi1) rfl]
    simp only [zq18, zq19, zq20, zq21, zq22, zq23, zq24, zq25, zq26, zq27, zq28, zq4, zq3, zq1, zq2, zq0, zq29, zq30, zq14, zq15, zq16, zq17, zq13, zq10, zq12, zq11, zq7, zq5, zq6, zq9, zq8, zq31, zq32, ite_T, ite_F, zq33, zq34, zq35, Nat.reduceEqDiff, len22, len24, fa26_0, fa26_1, fa26_2, len27, fa33_0, fa33_1, len35, fa114_0, fa114_1, fa114_2, fa124_0, fa124_1, len134]
    rw [zt_ (by omega) (by omega)]
    refine zub_ H i hi1 sz3 rfl rfl rfl fun w2 H => ?_
    simp only [List.take_succ_cons, List.take_zero, List.drop_succ_cons, List.drop_zero, List.nil_append, List.cons_append, Value.cells, zgg_] at H
    have hi2 := zhg_ (a := bx bc [.slice C bs.length cap, .int .i64 (a + 1), .int .u64 s] TC) hi
    rw [ldB112 (H.box i hi2) rfl]
    simp only [zq18, zq19, zq20, zq21, zq22, zq23, zq24, zq25, zq26, zq27, zq28, zq4, zq3, zq1, zq2, zq0, zq29, zq30, zq14, zq15, zq16, zq17, zq13, zq10, zq12, zq11, zq7, zq5, zq6, zq9, zq8, zq31, zq32, ite_T, ite_F, zq33, zq34, zq35, Nat.reduceEqDiff, len22, len24, fa26_0, fa26_1, fa26_2, len27, fa33_0, fa33_1, len35, fa114_0, fa114_1, fa114_2, fa124_0, fa124_1, len134]
    refine zfi_ Try.underlying3 Try.underlying112 ?_
    simp only [zq18, zq19, zq20, zq21, zq22, zq23, zq24, zq25, zq26, zq27, zq28, zq4, zq3, zq1, zq2, zq0, zq29, zq30, zq14, zq15, zq16, zq17, zq13, zq10, zq12, zq11, zq7, zq5, zq6, zq9, zq8, zq31, zq32, ite_T, ite_F, zq33, zq34, zq35, Nat.reduceEqDiff, len22, len24, fa26_0, fa26_1, fa26_2, len27, fa33_0, fa33_1, len35, fa114_0, fa114_1, fa114_2, fa124_0, fa124_1, len134]
    refine zub_ H i hi2 sz112 rfl rfl rfl fun w3 H => ?_
    simp only [List.take_succ_cons, List.take_zero, List.drop_succ_cons, List.drop_zero, List.nil_append, List.cons_append, Value.cells, zgg_] at H
    generalize IntKind.u64.wrap _ = z at H
    have hi3 := zhg_ (a := bx bc [.slice C bs.length cap, .int .i64 (a + 1), .int .u64 z] TC) hi
    have H := H.drew
    rw [ldB3 (H.box i hi3) rfl]
    rw [ldB22 (H.box i hi3) rfl]
    simp only [zq18, zq19, zq20, zq21, zq22, zq23, zq24, zq25, zq26, zq27, zq28, zq4, zq3, zq1, zq2, zq0, zq29, zq30, zq14, zq15, zq16, zq17, zq13, zq10, zq12, zq11, zq7, zq5, zq6, zq9, zq8, zq31, zq32, ite_T, ite_F, zq33, zq34, zq35, Nat.reduceEqDiff, len22, len24, fa26_0, fa26_1, fa26_2, len27, fa33_0, fa33_1, len35, fa114_0, fa114_1, fa114_2, fa124_0, fa124_1, len134]
    have fin : ∀ w' (b : Int), 0 ≤ b → b ≤ 255 → Apt w0 w' (L.set i (bx bc [.slice C bs.length cap, .int .i64 (a + 1), .int .u64 z] TC)) → k (.int .i64 b) w' := fun w' b hb hb' H => by
      have H := H.shutCur (N := N + 1) i hi3 (by omega) (by omega)
      rw [zgg_] at H
      exact hk w' b hb hb' H
    by_cases hle2 : a + 1 ≤ bs.length
    · simp only [hle2, decide_true, zq18, zq19, zq20, zq21, zq22, zq23, zq24, zq25, zq26, zq27, zq28, zq4, zq3, zq1, zq2, zq0, zq29, zq30, zq14, zq15, zq16, zq17, zq13, zq10, zq12, zq11, zq7, zq5, zq6, zq9, zq8, zq31, zq32, ite_T, ite_F, zq33, zq34, zq35, Nat.reduceEqDiff, len22, len24, fa26_0, fa26_1, fa26_2, len27, fa33_0, fa33_1, len35, fa114_0, fa114_1, fa114_2, fa124_0, fa124_1, len134]
      exact fin _ b hb0 hb1 H
    · simp only [hle2, decide_false, zq18, zq19, zq20, zq21, zq22, zq23, zq24, zq25, zq26, zq27, zq28, zq4, zq3, zq1, zq2, zq0, zq29, zq30, zq14, zq15, zq16, zq17, zq13, zq10, zq12, zq11, zq7, zq5, zq6, zq9, zq8, zq31, zq32, ite_T, ite_F, zq33, zq34, zq35, Nat.reduceEqDiff, len22, len24, fa26_0, fa26_1, fa26_2, len27, fa33_0, fa33_1, len35, fa114_0, fa114_1, fa114_2, fa124_0, fa124_1, len134]
      rw [ldB112 (H.box i hi3) rfl]
      refine rdi (bin_shr (by omega)) (rdi bin_and ?_)
      have h255 := and255 (z.fdiv (2 ^ (min (40 : Int).toNat IntKind.u64.bits)))
      generalize IntKind.u64.wrap _ = y at *
      refine zfi_ Try.underlying112 Try.underlying3 ?_
      rw [zt_ (by omega) (by omega)]
      exact fin _ y h255.1 h255.2 H
theorem zvc_ (H : Apt w0 w L) (i : Nat) (hi : L[i]? = some (cur bc (.slice C bs.length cap) N)) (hC : Byts w0 C bs) (hN : N ≤ 100000000) {n : Int} (hn : n ≤ 60000) (hk : ∀ w' (b : Nat), (n ≤ 1 → b = 0) → (1 < n → (b : Int) < n) → Apt w0 w' (L.set i (cur bc (.slice C bs.length cap) (N + 2))) → k (.int .i64 (b : Int)) w') :
    CallK Try.prog 146 [ptrv bc, .int .i64 n] k w := by
  refine enter146 ?_
  unfold S146
  have more : ∀ {w : World} {m : Nat}, m ≤ N + 2 → Apt w0 w (L.set i (cur bc (.slice C bs.length cap) m)) → Apt w0 w (L.set i (cur bc (.slice C bs.length cap) (N + 2))) := fun {w m} hm H => by
    have hj := zhg_ (a := cur bc (.slice C bs.length cap) m) hi
    obtain ⟨a, s, h0, h1, H⟩ := H.openCur i hj
    rw [zgg_] at H
    have hj2 := zhg_ (a := bx bc [.slice C bs.length cap, .int .i64 a, .int .u64 s] TC) hi
    have H := H.shutCur (N := N + 2) i hj2 h0 (by omega)
    rw [zgg_] at H
    exact H
  simp only [zq18, zq19, zq20, zq21, zq22, zq23, zq24, zq25, zq26, zq27, zq28, zq4, zq3, zq1, zq2, zq0, zq29, zq30, zq14, zq15, zq16, zq17, zq13, zq10, zq12, zq11, zq7, zq5, zq6, zq9, zq8, zq31, zq32, ite_T, ite_F, zq33, zq34, zq35, Nat.reduceEqDiff, len22, len24, fa26_0, fa26_1, fa26_2, len27, fa33_0, fa33_1, len35, fa114_0, fa114_1, fa114_2, fa124_0, fa124_1, len134]
  by_cases h1 : n ≤ 1
  · simp only [h1, decide_true, zq18, zq19, zq20, zq21, zq22, zq23, zq24, zq25, zq26, zq27, zq28, zq4, zq3, zq1, zq2, zq0, zq29, zq30, zq14, zq15, zq16, zq17, zq13, zq10, zq12, zq11, zq7, zq5, zq6, zq9, zq8, zq31, zq32, ite_T, ite_F, zq33, zq34, zq35, Nat.reduceEqDiff, len22, len24, fa26_0, fa26_1, fa26_2, len27, fa33_0, fa33_1, len35, fa114_0, fa114_1, fa114_2, fa124_0, fa124_1, len134]
    have e : L = L.set i (cur bc (.slice C bs.length cap) N) := by
      obtain ⟨h, e⟩ := List.getElem?_eq_some_iff.1 hi
      rw [← e, List.set_getElem_self]
    rw [e] at H
    exact hk w 0 (fun _ => rfl) (fun h => by omega) (more (by omega) H)
  simp only [h1, decide_false, zq18, zq19, zq20, zq21, zq22, zq23, zq24, zq25, zq26, zq27, zq28, zq4, zq3, zq1, zq2, zq0, zq29, zq30, zq14, zq15, zq16, zq17, zq13, zq10, zq12, zq11, zq7, zq5, zq6, zq9, zq8, zq31, zq32, ite_T, ite_F, zq33, zq34, zq35, Nat.reduceEqDiff, len22, len24, fa26_0, fa26_1, fa26_2, len27, fa33_0, fa33_1, len35, fa114_0, fa114_1, fa114_2, fa124_0, fa124_1, len134]
  refine next_c H i hi hC (by omega) fun w1 b hb0 hb1 H => ?_
  have hj := zhg_ (a := cur bc (.slice C bs.length cap) (N + 1)) hi
  have fin : ∀ (x : Int) (w' : World), 0 ≤ x → Apt w0 w' (L.set i (cur bc (.slice C bs.length cap) (N + 2))) → k (.int .i64 (x.tmod n)) w' := fun x w' hx H => by
    have e1 : x.tmod n = x % n := Int.tmod_eq_emod_of_nonneg hx
    have e2 := Int.emod_nonneg x (show n ≠ 0 by omega)
    have e3 := Int.emod_lt_of_pos x (show 0 < n by omega)
    have := hk w' (x % n).toNat (fun h => absurd h h1) (fun _ => by omega) H
    rw [Int.toNat_of_nonneg e2] at this
    rw [e1]
    exact this
  refine zmd_ (fun f w' => f 1 = .int .i64 n ∧ ∃ x : Int, 0 ≤ x ∧ f 5 = .int .i64 x ∧ Apt w0 w' (L.set i (cur bc (.slice C bs.length cap) (N + 2)))) (fun K hK => ?_) ?_
  · simp only [zq18, zq19, zq20, zq21, zq22, zq23, zq24, zq25, zq26, zq27, zq28, zq4, zq3, zq1, zq2, zq0, zq29, zq30, zq14, zq15, zq16, zq17, zq13, zq10, zq12, zq11, zq7, zq5, zq6, zq9, zq8, zq31, zq32, ite_T, ite_F, zq33, zq34, zq35, Nat.reduceEqDiff, len22, len24, fa26_0, fa26_1, fa26_2, len27, fa33_0, fa33_1, len35, fa114_0, fa114_1, fa114_2, fa124_0, fa124_1, len134]
    by_cases h2 : 200 < n
    · simp only [h2, decide_true, zq18, zq19, zq20, zq21, zq22, zq23, zq24, zq25, zq26, zq27, zq28, zq4, zq3, zq1, zq2, zq0, zq29, zq30, zq14, zq15, zq16, zq17, zq13, zq10, zq12, zq11, zq7, zq5, zq6, zq9, zq8, zq31, zq32, ite_T, ite_F, zq33, zq34, zq35, Nat.reduceEqDiff, len22, len24, fa26_0, fa26_1, fa26_2, len27, fa33_0, fa33_1, len35, fa114_0, fa114_1, fa114_2, fa124_0, fa124_1, len134]
      rw [zt_ (by omega) (by omega)]
      refine next_c H i hj hC (by omega) fun w2 b2 hc0 hc1 H => ?_
      rw [zgg_] at H
      simp only [zq18, zq19, zq20, zq21, zq22, zq23, zq24, zq25, zq26, zq27, zq28, zq4, zq3, zq1, zq2, zq0, zq29, zq30, zq14, zq15, zq16, zq17, zq13, zq10, zq12, zq11, zq7, zq5, zq6, zq9, zq8, zq31, zq32, ite_T, ite_F, zq33, zq34, zq35, Nat.reduceEqDiff, len22, len24, fa26_0, fa26_1, fa26_2, len27, fa33_0, fa33_1, len35, fa114_0, fa114_1, fa114_2, fa124_0, fa124_1, len134]
      rw [zt_ (by omega) (by omega)]
      exact hK _ _ ⟨rfl, _, by omega, rfl, H⟩
    · simp only [h2, decide_false, zq18, zq19, zq20, zq21, zq22, zq23, zq24, zq25, zq26, zq27, zq28, zq4, zq3, zq1, zq2, zq0, zq29, zq30, zq14, zq15, zq16, zq17, zq13, zq10, zq12, zq11, zq7, zq5, zq6, zq9, zq8, zq31, zq32, ite_T, ite_F, zq33, zq34, zq35, Nat.reduceEqDiff, len22, len24, fa26_0, fa26_1, fa26_2, len27, fa33_0, fa33_1, len35, fa114_0, fa114_1, fa114_2, fa124_0, fa124_1, len134]
      exact hK _ _ ⟨rfl, b, hb0, rfl, more (by omega) H⟩
  · rintro f w2 ⟨f1, x, hx, f5, H⟩
    simp only [f1, f5]
    refine rdi (bin_rem (by omega)) ?_
    exact fin x w2 hx H
theorem one_c (H : Apt w0 w L) (i : Nat) (hi : L[i]? = some (cur bc (.slice C bs.length cap) N)) (hC : Byts w0 C bs) (hN : N ≤ 100000000) {n : Int} (hn : n ≤ 60000) (hk : ∀ w' (b : Bool), Apt w0 w' (L.set i (cur bc (.slice C bs.length cap) (N + 2))) → k (.bool b) w') :
    CallK Try.prog 176 [ptrv bc, .int .i64 n] k w := by
  refine enter176 ?_
  unfold S176
  refine zvc_ H i hi hC hN hn fun w1 b _ _ H => ?_
  simp only [zq18, zq19, zq20, zq21, zq22, zq23, zq24, zq25, zq26, zq27, zq28, zq4, zq3, zq1, zq2, zq0, zq29, zq30, zq14, zq15, zq16, zq17, zq13, zq10, zq12, zq11, zq7, zq5, zq6, zq9, zq8, zq31, zq32, ite_T, ite_F, zq33, zq34, zq35, Nat.reduceEqDiff, len22, len24, fa26_0, fa26_1, fa26_2, len27, fa33_0, fa33_1, len35, fa114_0, fa114_1, fa114_2, fa124_0, fa124_1, len134]
  exact hk _ _ H
theorem among_c (H : Apt w0 w L) (i : Nat) (hi : L[i]? = some (cur bc (.slice C bs.length cap) N)) (hC : Byts w0 C bs) (hN : N ≤ 100000000) {Z : Option Addr} {n cz : Nat} {xs : List Int} (hZ : ∀ w', Apt w0 w' (L.set i (cur bc (.slice C bs.length cap) (N + 2))) → Ints w' Z xs) (hn : n = xs.length) (h0 : 0 < xs.length) (hl : xs.length ≤ 60000) (hk : ∀ w' (j : Nat), j < xs.length → Apt w0 w' (L.set i (cur bc (.slice C bs.length cap) (N + 2))) → k (.int .i64 (xs.getD j 0)) w') :
    CallK Try.prog 156 [ptrv bc, .slice Z n cz] k w := by
  subst hn
  refine enter156 ?_
  unfold S156
  simp only [zq18, zq19, zq20, zq21, zq22, zq23, zq24, zq25, zq26, zq27, zq28, zq4, zq3, zq1, zq2, zq0, zq29, zq30, zq14, zq15, zq16, zq17, zq13, zq10, zq12, zq11, zq7, zq5, zq6, zq9, zq8, zq31, zq32, ite_T, ite_F, zq33, zq34, zq35, Nat.reduceEqDiff, len22, len24, fa26_0, fa26_1, fa26_2, len27, fa33_0, fa33_1, len35, fa114_0, fa114_1, fa114_2, fa124_0, fa124_1, len134]
  refine zvc_ H i hi hC hN (by omega) fun w1 b h1 h2 H => ?_
  have hb : b < xs.length := by
    by_cases h : (xs.length : Int) ≤ 1
    · have := h1 h; omega
    · have := h2 (by omega); omega
  have hz := hZ w1 H
  refine rdi (zcc_ hz.ptr hb) (rdi (ld3 (hz.cell b hb)) ?_)
  exact hk w1 b hb H
end
end Go.Proofs.Ytegcjkhebecgbaa

namespace Go.Sh
open Go
inductive RuleCells (F : Nat → Prop) (w : World) : List RuleL → List Value → Prop
  | nil : RuleCells F w [] []
  | cons {r : RuleL} {rs : List RuleL} {Y : Option Addr} {c : Nat} {cells : List Value} : r.2.length ≤ c → IntsF F w Y r.2 → RuleCells F w rs cells → RuleCells F w (r :: rs) (.int .i64 r.1 :: .slice Y r.2.length c :: cells)
section
variable {F E : Nat → Prop} {w w' : World} {rs qs : List RuleL} {cells news : List Value}
theorem RuleCells.len (h : RuleCells F w rs cells) : cells.length = rs.length * 2 := by
  induction h with
  | nil => rfl
  | cons _ _ _ ih => simp only [List.length_cons, ih]; omega
theorem RuleCells.mono (h : RuleCells F w rs cells) (he : ∀ b, F b → E b) : RuleCells E w rs cells := by
  induction h with
  | nil => exact .nil
  | cons h1 h2 _ ih => exact .cons h1 (h2.mono he) ih
theorem RuleCells.gr (h : RuleCells F w rs cells) (g : Gr w w') : RuleCells F w' rs cells := by
  induction h with
  | nil => exact .nil
  | cons h1 h2 _ ih => exact .cons h1 (h2.gr g) ih
theorem IntsF.same' {X : Option Addr} {xs : List Int} (h : IntsF F w X xs) (hs : ∀ q, F q → w'.heap[q]? = w.heap[q]?) : IntsF F w' X xs :=
  ⟨⟨h.is.le, h.is.ptr, fun j hj => by
    have h1 := h.is.cell j hj
    have h2 : w'.heap[((ad X).add j).block]? = w.heap[((ad X).add j).block]? := hs _ (by rw [zhd_]; exact h.foot (by omega))
    unfold World.cell? at h1 ⊢
    rw [h2]
    exact h1⟩, h.foot⟩
theorem RuleCells.same (h : RuleCells F w rs cells) (hs : ∀ q, F q → w'.heap[q]? = w.heap[q]?) : RuleCells F w' rs cells := by
  induction h with
  | nil => exact .nil
  | cons h1 h2 _ ih => exact .cons h1 (h2.same' hs) ih
theorem RuleCells.append (h : RuleCells F w rs cells) (h' : RuleCells F w qs news) : RuleCells F w (rs ++ qs) (cells ++ news) := by
  induction h with
  | nil => exact h'
  | cons h1 h2 _ ih => exact .cons h1 h2 ih
theorem RuleCells.one (h : RuleCells F w rs cells) : ∀ v ∈ cells, v.oneCell' = true := by
  induction h with
  | nil => intro v hv; simp at hv
  | cons h1 h2 _ ih =>
    intro v hv
    rcases List.mem_cons.1 hv with rfl | hv
    · rfl
    · rcases List.mem_cons.1 hv with rfl | hv
      · rfl
      · exact ih v hv
theorem RuleCells.lt (h : RuleCells F w rs cells) : RuleCells (fun b => F b ∧ b < w.heap.size) w rs cells := by
  induction h with
  | nil => exact .nil
  | @cons r rs Y c cells h1 h2 _ ih =>
    refine .cons h1 ⟨h2.is, fun hp => ⟨h2.foot hp, ?_⟩⟩ ih
    have h3 := h2.is.cell 0 hp
    have : ((ad Y).add 0).block < w.heap.size := by
      unfold World.cell? at h3
      cases hb : w.heap[((ad Y).add 0).block]? with
      | none => rw [hb] at h3; cases h3
      | some _ => exact (Array.getElem?_eq_some_iff.1 hb).1
    rwa [zhd_] at this
theorem RuleCells.cell (h : RuleCells F w rs cells) : ∀ j, j < rs.length → ∃ Y c, cells[j * 2]? = some (.int .i64 (rul rs j).1) ∧ cells[j * 2 + 1]? = some (.slice Y (rul rs j).2.length c) ∧ (rul rs j).2.length ≤ c ∧ IntsF F w Y (rul rs j).2 := by
  induction h with
  | nil => intro j hj; simp at hj
  | cons h1 h2 _ ih =>
    intro j hj
    cases j with
    | zero => exact ⟨_, _, rfl, rfl, h1, h2⟩
    | succ j =>
      obtain ⟨Y, c, a1, a2, a3, a4⟩ := ih j (by simpa using hj)
      have e : ∀ (r : RuleL) (rs : List RuleL), rul (r :: rs) (j + 1) = rul rs j := fun r rs => by simp [rul]
      rw [e]
      refine ⟨Y, c, ?_, ?_, a3, a4⟩
      · rw [show (j + 1) * 2 = j * 2 + 1 + 1 from by omega]
        simpa using a1
      · rw [show (j + 1) * 2 + 1 = j * 2 + 1 + 1 + 1 from by omega]
        simpa using a2
def OwnG (e : Nat) (F : Nat → Prop) (w : World) (B : Nat) (X : Option Addr) (c : Nat) (rs : List RuleL) : Prop := ∃ cells, Row w B e 2 X rs.length c cells ∧ RuleCells (fun q => F q ∧ blk X ≠ some q) w rs cells
def gow (e : Nat) (ft : Nat → Prop) (X : Option Addr) (c : Nat) (rs : List RuleL) : Thing := ⟨fun w => OwnG e ft w 0 X c rs, fun q => blk X = some q ∨ ft q⟩
theorem zvf_ {e : Nat} {ft : Nat → Prop} {B c : Nat} {X : Option Addr} (h : OwnG e ft w B X c rs) : ∀ w', (∀ q, (gow e ft X c rs).ft q → w'.heap[q]? = w.heap[q]?) → (gow e ft X c rs).P w' := fun w' hs => by
  obtain ⟨cells, h1, h2⟩ := h
  exact ⟨cells, (Row.mono h1 (Nat.zero_le B)).same fun q hq => hs q (.inl hq), h2.same fun q hq => hs q (.inr hq.1)⟩
theorem OwnG.read {e : Nat} {B c : Nat} {X : Option Addr} (h : OwnG e F w B X c rs) : RulesF (fun _ => True) w X rs := by
  obtain ⟨cells, h1, h2⟩ := h
  have hcap := Row.cap h1
  refine ⟨by omega, fun hp => h1.ptr hp, fun _ => trivial, fun j hj => ?_⟩
  obtain ⟨Y, d, a1, a2, a3, a4⟩ := h2.cell j hj
  exact ⟨Y, d, h1.src.cell _ _ a1, h1.src.cell _ _ a2, a3, a4.mono fun _ _ => trivial⟩
theorem Apt.gow {w0 : World} {L : List Thing} (H : Apt w0 w L) (i : Nat) {e : Nat} {ft : Nat → Prop} {c : Nat} {X : Option Addr} (hi : L[i]? = some (Sh.gow e ft X c rs)) : OwnG e ft w 0 X c rs := H.get i hi
theorem Apt.addGow {w0 : World} {L : List Thing} {e c : Nat} {X : Option Addr} (H : Apt w0 w L) (g : Gr w w') (hr : Row w' w.heap.size e 2 X rs.length c cells) (hc : RuleCells (fun q => w.heap.size ≤ q ∧ blk X ≠ some q) w' rs cells) : Apt w0 w' (L ++ [Sh.gow e (fun q => w.heap.size ≤ q ∧ q < w'.heap.size) X c rs]) := by
  refine H.add g _ (fun q hq => ?_) (fun q hq => ?_) (zvf_ ⟨cells, hr, hc.lt.mono fun b hb => ⟨⟨hb.1.1, hb.2⟩, hb.1.2⟩⟩)
  · rcases hq with hq | hq
    · exact (hr.ge hq).1
    · exact hq.1
  · rcases hq with hq | hq
    · exact (hr.ge hq).2
    · exact hq.2
end
structure Drawn (m : Nat) (gm : Gram) : Prop where
  nons : 0 ≤ gm.nons ∧ gm.nons ≤ 1000
  toks : 0 ≤ gm.toks ∧ gm.toks ≤ 1000
  some : 0 < gm.rules.length
  few : gm.rules.length ≤ m
  rights : ∀ r ∈ gm.rules, r.2.length ≤ 1000
end Go.Sh

namespace Go.Proofs.Ytegcjkhebecgbaa
open Go Go.Sh Go.RowKit
abbrev gth (ft : Nat → Prop) (X : Option Addr) (c : Nat) (rs : List RuleL) : Thing := gow 33 ft X c rs
theorem rng8 : Array.range 8 = #[0, 1, 2, 3, 4, 5, 6, 7] := by decide
theorem rng10 : Array.range 10 = #[0, 1, 2, 3, 4, 5, 6, 7, 8, 9] := by decide
section
variable {w0 w : World} {L : List Thing} {bc N : Nat} {C : Option Addr} {cap : Nat} {bs : List Int} {k : Value → World → Prop}
theorem nilF (F : Nat → Prop) (w : World) : IntsF F w none [] := ⟨⟨by simp, fun h => by simp at h, fun j hj => by simp at hj⟩, fun h => by simp at h⟩
theorem ltF {F : Nat → Prop} {w : World} {X : Option Addr} {xs : List Int} (h : IntsF F w X xs) : IntsF (fun b => F b ∧ b < w.heap.size) w X xs := ⟨h.is, fun hp => ⟨h.foot hp, (IntsF.of_ints h.is).foot hp⟩⟩
set_option maxHeartbeats 6400000 in
theorem known_c {E : List Thing} (H : Apt w0 w (cur bc (.slice C bs.length cap) N :: E)) (hC : Byts w0 C bs) (hN : N ≤ 10000000) (hk : ∀ w' gm ft X c, Drawn 100 gm → Apt w0 w' (cur bc (.slice C bs.length cap) (N + 2) :: gth ft X c gm.rules :: E) → k (.agg #[.int .i64 gm.nons, .int .i64 gm.toks, .slice X gm.rules.length c]) w') :
    CallK Try.prog 303 [ptrv bc] k w := by
  refine enter303 ?_
  unfold S303
  refine zkc_ H zdc_ fun b1 w1 H => ?_
  have H := H.insert 1
  simp only [List.take_succ_cons, List.take_zero, List.drop_succ_cons, List.drop_zero, List.nil_append, List.cons_append] at H
  refine zvc_ H 0 rfl hC (by omega) (by omega) fun wA b _ hb8 H => ?_
  have hb8 := hb8 (by omega)
  simp only [List.set_cons_zero] at H
  have fin : ∀ (wB : World) (bX c : Nat) (gm : Gram) (cells : List Value), Drawn 100 gm → Gr wA wB → Row wB wA.heap.size 33 2 (some ⟨bX, 0, none⟩) gm.rules.length c cells → RuleCells (fun q => wA.heap.size ≤ q ∧ blk (some (⟨bX, 0, none⟩ : Addr)) ≠ some q) wB gm.rules cells → Do Try.prog (zi_ 26 (ptrv b1) (.agg #[.int .i64 gm.nons, .int .i64 gm.toks, .slice (some ⟨bX, 0, none⟩) gm.rules.length c])) (fun _ w' => Rd Try.prog (WS.at w') (zib_ 26 (ptrv b1)) fun v => k v w') wB := fun wB bX c gm cells hd g hr hc => by
    have H := H.addGow g hr hc
    have H := H.insert 1
    simp only [List.take_succ_cons, List.take_zero, List.drop_succ_cons, List.drop_zero, List.nil_append, List.cons_append] at H
    refine zub_ H 2 rfl sz26 rfl rfl rfl fun w2 H => ?_
    simp only [List.set_cons_zero, List.set_cons_succ] at H
    rw [zcb_, zj_ zu_ sz26 rfl (H.box 2 rfl)]
    have H := H.erase 2
    simp only [List.eraseIdx_cons_zero, List.eraseIdx_cons_succ] at H
    exact hk w2 gm _ _ c hd H
  obtain rfl | rfl | rfl | rfl | rfl | rfl | rfl | rfl : b = 0 ∨ b = 1 ∨ b = 2 ∨ b = 3 ∨ b = 4 ∨ b = 5 ∨ b = 6 ∨ b = 7 := by omega
  · simp only [show (((0 : Nat) : Int) = 0) from by omega, decide_true, decide_false, zq18, zq19, zq20, zq21, zq22, zq23, zq24, zq25, zq26, zq27, zq28, zq4, zq3, zq1, zq2, zq0, zq29, zq30, zq14, zq15, zq16, zq17, zq13, zq10, zq12, zq11, zq7, zq5, zq6, zq9, zq8, zq31, zq32, ite_T, ite_F, zq33, zq34, zq35, Nat.reduceEqDiff, len22, len24, fa26_0, fa26_1, fa26_2, len27, fa33_0, fa33_1, len35, fa114_0, fa114_1, fa114_2, fa124_0, fa124_1, len134]
    refine zab_ u27 inf3 (cells := ints [-1, 0, -2]) (by decide) (by decide) (by simp [Instr.fill, madeCells, Value.cells, rng3, ints]) rfl fun c0 v0 _ _ g0 _ r0 => ?_
    have i0 : IntsF (fun b => wA.heap.size ≤ b) v0 (some ⟨c0, 0, none⟩) [-1, 0, -2] := (IntsF.of_own (r0 _ (Nat.le_refl _))).mono fun b hb => Nat.le_trans (Gr.refl wA).size hb.1
    have G0 := g0
    rw [bd33 (cells := #[.int .i64 0, .slice (some ⟨c0, 0, none⟩) 3 3]) rfl]
    rw [bd33 (cells := #[.int .i64 0, .slice none 0 0]) rfl]
    refine zab_ u24 zxb_ (cells := [.int .i64 0, .slice (some ⟨c0, 0, none⟩) 3 3, .int .i64 0, .slice none 0 0]) (by decide) (by decide) (by simp [Instr.fill, madeCells, Value.cells, rng4]) rfl fun bX wB hX1 _ gB _ rB => ?_
    rw [bd26 (cells := #[.int .i64 1, .int .i64 2, .slice (some ⟨bX, 0, none⟩) 2 2]) rfl]
    have j0 := ((ltF i0).gr gB).mono (E := fun q => wA.heap.size ≤ q ∧ blk (some (⟨bX, 0, none⟩ : Addr)) ≠ some q) fun q hq => ⟨hq.1, fun e => absurd hq.2 (by have := Option.some.inj (show some bX = some q from e); omega)⟩
    exact fin wB bX 2 ⟨1, 2, [(0, [-1, 0, -2]), (0, [])]⟩ _ ⟨⟨by decide, by decide⟩, ⟨by decide, by decide⟩, by decide, by decide, by decide⟩ (zd_ G0 gB) (rB _ G0.size) (.cons (r := (0, [-1, 0, -2])) (Nat.le_refl _) j0 (.cons (r := (0, [])) (Nat.le_refl _) (nilF _ _) .nil))
  · simp only [show ¬ (((1 : Nat) : Int) = 0) from by omega, show (((1 : Nat) : Int) = 1) from by omega, decide_true, decide_false, zq18, zq19, zq20, zq21, zq22, zq23, zq24, zq25, zq26, zq27, zq28, zq4, zq3, zq1, zq2, zq0, zq29, zq30, zq14, zq15, zq16, zq17, zq13, zq10, zq12, zq11, zq7, zq5, zq6, zq9, zq8, zq31, zq32, ite_T, ite_F, zq33, zq34, zq35, Nat.reduceEqDiff, len22, len24, fa26_0, fa26_1, fa26_2, len27, fa33_0, fa33_1, len35, fa114_0, fa114_1, fa114_2, fa124_0, fa124_1, len134]
    refine zab_ u27 inf3 (cells := ints [0, 0]) (by decide) (by decide) (by simp [Instr.fill, madeCells, Value.cells, rng2, ints]) rfl fun c0 v0 _ _ g0 _ r0 => ?_
    have i0 : IntsF (fun b => wA.heap.size ≤ b) v0 (some ⟨c0, 0, none⟩) [0, 0] := (IntsF.of_own (r0 _ (Nat.le_refl _))).mono fun b hb => Nat.le_trans (Gr.refl wA).size hb.1
    have G0 := g0
    rw [bd33 (cells := #[.int .i64 0, .slice (some ⟨c0, 0, none⟩) 2 2]) rfl]
    refine zab_ u27 inf3 (cells := ints [-1, 0, -2]) (by decide) (by decide) (by simp [Instr.fill, madeCells, Value.cells, rng3, ints]) rfl fun c1 v1 _ _ g1 _ r1 => ?_
    have i1 : IntsF (fun b => wA.heap.size ≤ b) v1 (some ⟨c1, 0, none⟩) [-1, 0, -2] := (IntsF.of_own (r1 _ (Nat.le_refl _))).mono fun b hb => Nat.le_trans G0.size hb.1
    have G1 := zd_ G0 g1
    rw [bd33 (cells := #[.int .i64 0, .slice (some ⟨c1, 0, none⟩) 3 3]) rfl]
    refine zab_ u27 inf3 (cells := ints [-1, -2]) (by decide) (by decide) (by simp [Instr.fill, madeCells, Value.cells, rng2, ints]) rfl fun c2 v2 _ _ g2 _ r2 => ?_
    have i2 : IntsF (fun b => wA.heap.size ≤ b) v2 (some ⟨c2, 0, none⟩) [-1, -2] := (IntsF.of_own (r2 _ (Nat.le_refl _))).mono fun b hb => Nat.le_trans G1.size hb.1
    have G2 := zd_ G1 g2
    rw [bd33 (cells := #[.int .i64 0, .slice (some ⟨c2, 0, none⟩) 2 2]) rfl]
    refine zab_ u24 zxb_ (cells := [.int .i64 0, .slice (some ⟨c0, 0, none⟩) 2 2, .int .i64 0, .slice (some ⟨c1, 0, none⟩) 3 3, .int .i64 0, .slice (some ⟨c2, 0, none⟩) 2 2]) (by decide) (by decide) (by simp [Instr.fill, madeCells, Value.cells, rng6]) rfl fun bX wB hX1 _ gB _ rB => ?_
    rw [bd26 (cells := #[.int .i64 1, .int .i64 2, .slice (some ⟨bX, 0, none⟩) 3 3]) rfl]
    have j0 := ((ltF ((i0.gr g1).gr g2)).gr gB).mono (E := fun q => wA.heap.size ≤ q ∧ blk (some (⟨bX, 0, none⟩ : Addr)) ≠ some q) fun q hq => ⟨hq.1, fun e => absurd hq.2 (by have := Option.some.inj (show some bX = some q from e); omega)⟩
    have j1 := ((ltF (i1.gr g2)).gr gB).mono (E := fun q => wA.heap.size ≤ q ∧ blk (some (⟨bX, 0, none⟩ : Addr)) ≠ some q) fun q hq => ⟨hq.1, fun e => absurd hq.2 (by have := Option.some.inj (show some bX = some q from e); omega)⟩
    have j2 := ((ltF i2).gr gB).mono (E := fun q => wA.heap.size ≤ q ∧ blk (some (⟨bX, 0, none⟩ : Addr)) ≠ some q) fun q hq => ⟨hq.1, fun e => absurd hq.2 (by have := Option.some.inj (show some bX = some q from e); omega)⟩
    exact fin wB bX 3 ⟨1, 2, [(0, [0, 0]), (0, [-1, 0, -2]), (0, [-1, -2])]⟩ _ ⟨⟨by decide, by decide⟩, ⟨by decide, by decide⟩, by decide, by decide, by decide⟩ (zd_ G2 gB) (rB _ G2.size) (.cons (r := (0, [0, 0])) (Nat.le_refl _) j0 (.cons (r := (0, [-1, 0, -2])) (Nat.le_refl _) j1 (.cons (r := (0, [-1, -2])) (Nat.le_refl _) j2 .nil)))
  · simp only [show ¬ (((2 : Nat) : Int) = 0) from by omega, show ¬ (((2 : Nat) : Int) = 1) from by omega, show (((2 : Nat) : Int) = 2) from by omega, decide_true, decide_false, zq18, zq19, zq20, zq21, zq22, zq23, zq24, zq25, zq26, zq27, zq28, zq4, zq3, zq1, zq2, zq0, zq29, zq30, zq14, zq15, zq16, zq17, zq13, zq10, zq12, zq11, zq7, zq5, zq6, zq9, zq8, zq31, zq32, ite_T, ite_F, zq33, zq34, zq35, Nat.reduceEqDiff, len22, len24, fa26_0, fa26_1, fa26_2, len27, fa33_0, fa33_1, len35, fa114_0, fa114_1, fa114_2, fa124_0, fa124_1, len134]
    refine zab_ u27 inf3 (cells := ints [0, -3, 1]) (by decide) (by decide) (by simp [Instr.fill, madeCells, Value.cells, rng3, ints]) rfl fun c0 v0 _ _ g0 _ r0 => ?_
    have i0 : IntsF (fun b => wA.heap.size ≤ b) v0 (some ⟨c0, 0, none⟩) [0, -3, 1] := (IntsF.of_own (r0 _ (Nat.le_refl _))).mono fun b hb => Nat.le_trans (Gr.refl wA).size hb.1
    have G0 := g0
    rw [bd33 (cells := #[.int .i64 0, .slice (some ⟨c0, 0, none⟩) 3 3]) rfl]
    refine zab_ u27 inf3 (cells := ints [1]) (by decide) (by decide) (by simp [Instr.fill, madeCells, Value.cells, rng1, ints]) rfl fun c1 v1 _ _ g1 _ r1 => ?_
    have i1 : IntsF (fun b => wA.heap.size ≤ b) v1 (some ⟨c1, 0, none⟩) [1] := (IntsF.of_own (r1 _ (Nat.le_refl _))).mono fun b hb => Nat.le_trans G0.size hb.1
    have G1 := zd_ G0 g1
    rw [bd33 (cells := #[.int .i64 0, .slice (some ⟨c1, 0, none⟩) 1 1]) rfl]
    refine zab_ u27 inf3 (cells := ints [-1]) (by decide) (by decide) (by simp [Instr.fill, madeCells, Value.cells, rng1, ints]) rfl fun c2 v2 _ _ g2 _ r2 => ?_
    have i2 : IntsF (fun b => wA.heap.size ≤ b) v2 (some ⟨c2, 0, none⟩) [-1] := (IntsF.of_own (r2 _ (Nat.le_refl _))).mono fun b hb => Nat.le_trans G1.size hb.1
    have G2 := zd_ G1 g2
    rw [bd33 (cells := #[.int .i64 1, .slice (some ⟨c2, 0, none⟩) 1 1]) rfl]
    refine zab_ u27 inf3 (cells := ints [-2, 0, -2]) (by decide) (by decide) (by simp [Instr.fill, madeCells, Value.cells, rng3, ints]) rfl fun c3 v3 _ _ g3 _ r3 => ?_
    have i3 : IntsF (fun b => wA.heap.size ≤ b) v3 (some ⟨c3, 0, none⟩) [-2, 0, -2] := (IntsF.of_own (r3 _ (Nat.le_refl _))).mono fun b hb => Nat.le_trans G2.size hb.1
    have G3 := zd_ G2 g3
    rw [bd33 (cells := #[.int .i64 1, .slice (some ⟨c3, 0, none⟩) 3 3]) rfl]
    refine zab_ u24 zxb_ (cells := [.int .i64 0, .slice (some ⟨c0, 0, none⟩) 3 3, .int .i64 0, .slice (some ⟨c1, 0, none⟩) 1 1, .int .i64 1, .slice (some ⟨c2, 0, none⟩) 1 1, .int .i64 1, .slice (some ⟨c3, 0, none⟩) 3 3]) (by decide) (by decide) (by simp [Instr.fill, madeCells, Value.cells, rng8]) rfl fun bX wB hX1 _ gB _ rB => ?_
    rw [bd26 (cells := #[.int .i64 2, .int .i64 3, .slice (some ⟨bX, 0, none⟩) 4 4]) rfl]
    have j0 := ((ltF (((i0.gr g1).gr g2).gr g3)).gr gB).mono (E := fun q => wA.heap.size ≤ q ∧ blk (some (⟨bX, 0, none⟩ : Addr)) ≠ some q) fun q hq => ⟨hq.1, fun e => absurd hq.2 (by have := Option.some.inj (show some bX = some q from e); omega)⟩
    have j1 := ((ltF ((i1.gr g2).gr g3)).gr gB).mono (E := fun q => wA.heap.size ≤ q ∧ blk (some (⟨bX, 0, none⟩ : Addr)) ≠ some q) fun q hq => ⟨hq.1, fun e => absurd hq.2 (by have := Option.some.inj (show some bX = some q from e); omega)⟩
    have j2 := ((ltF (i2.gr g3)).gr gB).mono (E := fun q => wA.heap.size ≤ q ∧ blk (some (⟨bX, 0, none⟩ : Addr)) ≠ some q) fun q hq => ⟨hq.1, fun e => absurd hq.2 (by have := Option.some.inj (show some bX = some q from e); omega)⟩
    have j3 := ((ltF i3).gr gB).mono (E := fun q => wA.heap.size ≤ q ∧ blk (some (⟨bX, 0, none⟩ : Addr)) ≠ some q) fun q hq => ⟨hq.1, fun e => absurd hq.2 (by have := Option.some.inj (show some bX = some q from e); omega)⟩
    exact fin wB bX 4 ⟨2, 3, [(0, [0, -3, 1]), (0, [1]), (1, [-1]), (1, [-2, 0, -2])]⟩ _ ⟨⟨by decide, by decide⟩, ⟨by decide, by decide⟩, by decide, by decide, by decide⟩ (zd_ G3 gB) (rB _ G3.size) (.cons (r := (0, [0, -3, 1])) (Nat.le_refl _) j0 (.cons (r := (0, [1])) (Nat.le_refl _) j1 (.cons (r := (1, [-1])) (Nat.le_refl _) j2 (.cons (r := (1, [-2, 0, -2])) (Nat.le_refl _) j3 .nil))))
  · simp only [show ¬ (((3 : Nat) : Int) = 0) from by omega, show ¬ (((3 : Nat) : Int) = 1) from by omega, show ¬ (((3 : Nat) : Int) = 2) from by omega, show (((3 : Nat) : Int) = 3) from by omega, decide_true, decide_false, zq18, zq19, zq20, zq21, zq22, zq23, zq24, zq25, zq26, zq27, zq28, zq4, zq3, zq1, zq2, zq0, zq29, zq30, zq14, zq15, zq16, zq17, zq13, zq10, zq12, zq11, zq7, zq5, zq6, zq9, zq8, zq31, zq32, ite_T, ite_F, zq33, zq34, zq35, Nat.reduceEqDiff, len22, len24, fa26_0, fa26_1, fa26_2, len27, fa33_0, fa33_1, len35, fa114_0, fa114_1, fa114_2, fa124_0, fa124_1, len134]
    refine zab_ u27 inf3 (cells := ints [-1, 1]) (by decide) (by decide) (by simp [Instr.fill, madeCells, Value.cells, rng2, ints]) rfl fun c0 v0 _ _ g0 _ r0 => ?_
    have i0 : IntsF (fun b => wA.heap.size ≤ b) v0 (some ⟨c0, 0, none⟩) [-1, 1] := (IntsF.of_own (r0 _ (Nat.le_refl _))).mono fun b hb => Nat.le_trans (Gr.refl wA).size hb.1
    have G0 := g0
    rw [bd33 (cells := #[.int .i64 0, .slice (some ⟨c0, 0, none⟩) 2 2]) rfl]
    refine zab_ u27 inf3 (cells := ints [-2, 1]) (by decide) (by decide) (by simp [Instr.fill, madeCells, Value.cells, rng2, ints]) rfl fun c1 v1 _ _ g1 _ r1 => ?_
    have i1 : IntsF (fun b => wA.heap.size ≤ b) v1 (some ⟨c1, 0, none⟩) [-2, 1] := (IntsF.of_own (r1 _ (Nat.le_refl _))).mono fun b hb => Nat.le_trans G0.size hb.1
    have G1 := zd_ G0 g1
    rw [bd33 (cells := #[.int .i64 1, .slice (some ⟨c1, 0, none⟩) 2 2]) rfl]
    refine zab_ u27 inf3 (cells := ints [-2]) (by decide) (by decide) (by simp [Instr.fill, madeCells, Value.cells, rng1, ints]) rfl fun c2 v2 _ _ g2 _ r2 => ?_
    have i2 : IntsF (fun b => wA.heap.size ≤ b) v2 (some ⟨c2, 0, none⟩) [-2] := (IntsF.of_own (r2 _ (Nat.le_refl _))).mono fun b hb => Nat.le_trans G1.size hb.1
    have G2 := zd_ G1 g2
    rw [bd33 (cells := #[.int .i64 1, .slice (some ⟨c2, 0, none⟩) 1 1]) rfl]
    rw [bd33 (cells := #[.int .i64 1, .slice none 0 0]) rfl]
    refine zab_ u24 zxb_ (cells := [.int .i64 0, .slice (some ⟨c0, 0, none⟩) 2 2, .int .i64 1, .slice (some ⟨c1, 0, none⟩) 2 2, .int .i64 1, .slice (some ⟨c2, 0, none⟩) 1 1, .int .i64 1, .slice none 0 0]) (by decide) (by decide) (by simp [Instr.fill, madeCells, Value.cells, rng8]) rfl fun bX wB hX1 _ gB _ rB => ?_
    rw [bd26 (cells := #[.int .i64 2, .int .i64 2, .slice (some ⟨bX, 0, none⟩) 4 4]) rfl]
    have j0 := ((ltF ((i0.gr g1).gr g2)).gr gB).mono (E := fun q => wA.heap.size ≤ q ∧ blk (some (⟨bX, 0, none⟩ : Addr)) ≠ some q) fun q hq => ⟨hq.1, fun e => absurd hq.2 (by have := Option.some.inj (show some bX = some q from e); omega)⟩
    have j1 := ((ltF (i1.gr g2)).gr gB).mono (E := fun q => wA.heap.size ≤ q ∧ blk (some (⟨bX, 0, none⟩ : Addr)) ≠ some q) fun q hq => ⟨hq.1, fun e => absurd hq.2 (by have := Option.some.inj (show some bX = some q from e); omega)⟩
    have j2 := ((ltF i2).gr gB).mono (E := fun q => wA.heap.size ≤ q ∧ blk (some (⟨bX, 0, none⟩ : Addr)) ≠ some q) fun q hq => ⟨hq.1, fun e => absurd hq.2 (by have := Option.some.inj (show some bX = some q from e); omega)⟩
    exact fin wB bX 4 ⟨2, 2, [(0, [-1, 1]), (1, [-2, 1]), (1, [-2]), (1, [])]⟩ _ ⟨⟨by decide, by decide⟩, ⟨by decide, by decide⟩, by decide, by decide, by decide⟩ (zd_ G2 gB) (rB _ G2.size) (.cons (r := (0, [-1, 1])) (Nat.le_refl _) j0 (.cons (r := (1, [-2, 1])) (Nat.le_refl _) j1 (.cons (r := (1, [-2])) (Nat.le_refl _) j2 (.cons (r := (1, [])) (Nat.le_refl _) (nilF _ _) .nil))))
  · simp only [show ¬ (((4 : Nat) : Int) = 0) from by omega, show ¬ (((4 : Nat) : Int) = 1) from by omega, show ¬ (((4 : Nat) : Int) = 2) from by omega, show ¬ (((4 : Nat) : Int) = 3) from by omega, show (((4 : Nat) : Int) = 4) from by omega, decide_true, decide_false, zq18, zq19, zq20, zq21, zq22, zq23, zq24, zq25, zq26, zq27, zq28, zq4, zq3, zq1, zq2, zq0, zq29, zq30, zq14, zq15, zq16, zq17, zq13, zq10, zq12, zq11, zq7, zq5, zq6, zq9, zq8, zq31, zq32, ite_T, ite_F, zq33, zq34, zq35, Nat.reduceEqDiff, len22, len24, fa26_0, fa26_1, fa26_2, len27, fa33_0, fa33_1, len35, fa114_0, fa114_1, fa114_2, fa124_0, fa124_1, len134]
    refine zab_ u27 inf3 (cells := ints [0]) (by decide) (by decide) (by simp [Instr.fill, madeCells, Value.cells, rng1, ints]) rfl fun c0 v0 _ _ g0 _ r0 => ?_
    have i0 : IntsF (fun b => wA.heap.size ≤ b) v0 (some ⟨c0, 0, none⟩) [0] := (IntsF.of_own (r0 _ (Nat.le_refl _))).mono fun b hb => Nat.le_trans (Gr.refl wA).size hb.1
    have G0 := g0
    rw [bd33 (cells := #[.int .i64 0, .slice (some ⟨c0, 0, none⟩) 1 1]) rfl]
    refine zab_ u27 inf3 (cells := ints [1]) (by decide) (by decide) (by simp [Instr.fill, madeCells, Value.cells, rng1, ints]) rfl fun c1 v1 _ _ g1 _ r1 => ?_
    have i1 : IntsF (fun b => wA.heap.size ≤ b) v1 (some ⟨c1, 0, none⟩) [1] := (IntsF.of_own (r1 _ (Nat.le_refl _))).mono fun b hb => Nat.le_trans G0.size hb.1
    have G1 := zd_ G0 g1
    rw [bd33 (cells := #[.int .i64 0, .slice (some ⟨c1, 0, none⟩) 1 1]) rfl]
    refine zab_ u27 inf3 (cells := ints [0, 1]) (by decide) (by decide) (by simp [Instr.fill, madeCells, Value.cells, rng2, ints]) rfl fun c2 v2 _ _ g2 _ r2 => ?_
    have i2 : IntsF (fun b => wA.heap.size ≤ b) v2 (some ⟨c2, 0, none⟩) [0, 1] := (IntsF.of_own (r2 _ (Nat.le_refl _))).mono fun b hb => Nat.le_trans G1.size hb.1
    have G2 := zd_ G1 g2
    rw [bd33 (cells := #[.int .i64 1, .slice (some ⟨c2, 0, none⟩) 2 2]) rfl]
    refine zab_ u27 inf3 (cells := ints [-1]) (by decide) (by decide) (by simp [Instr.fill, madeCells, Value.cells, rng1, ints]) rfl fun c3 v3 _ _ g3 _ r3 => ?_
    have i3 : IntsF (fun b => wA.heap.size ≤ b) v3 (some ⟨c3, 0, none⟩) [-1] := (IntsF.of_own (r3 _ (Nat.le_refl _))).mono fun b hb => Nat.le_trans G2.size hb.1
    have G3 := zd_ G2 g3
    rw [bd33 (cells := #[.int .i64 1, .slice (some ⟨c3, 0, none⟩) 1 1]) rfl]
    rw [bd33 (cells := #[.int .i64 1, .slice none 0 0]) rfl]
    refine zab_ u24 zxb_ (cells := [.int .i64 0, .slice (some ⟨c0, 0, none⟩) 1 1, .int .i64 0, .slice (some ⟨c1, 0, none⟩) 1 1, .int .i64 1, .slice (some ⟨c2, 0, none⟩) 2 2, .int .i64 1, .slice (some ⟨c3, 0, none⟩) 1 1, .int .i64 1, .slice none 0 0]) (by decide) (by decide) (by simp [Instr.fill, madeCells, Value.cells, rng10]) rfl fun bX wB hX1 _ gB _ rB => ?_
    rw [bd26 (cells := #[.int .i64 2, .int .i64 1, .slice (some ⟨bX, 0, none⟩) 5 5]) rfl]
    have j0 := ((ltF (((i0.gr g1).gr g2).gr g3)).gr gB).mono (E := fun q => wA.heap.size ≤ q ∧ blk (some (⟨bX, 0, none⟩ : Addr)) ≠ some q) fun q hq => ⟨hq.1, fun e => absurd hq.2 (by have := Option.some.inj (show some bX = some q from e); omega)⟩
    have j1 := ((ltF ((i1.gr g2).gr g3)).gr gB).mono (E := fun q => wA.heap.size ≤ q ∧ blk (some (⟨bX, 0, none⟩ : Addr)) ≠ some q) fun q hq => ⟨hq.1, fun e => absurd hq.2 (by have := Option.some.inj (show some bX = some q from e); omega)⟩
    have j2 := ((ltF (i2.gr g3)).gr gB).mono (E := fun q => wA.heap.size ≤ q ∧ blk (some (⟨bX, 0, none⟩ : Addr)) ≠ some q) fun q hq => ⟨hq.1, fun e => absurd hq.2 (by have := Option.some.inj (show some bX = some q from e); omega)⟩
    have j3 := ((ltF i3).gr gB).mono (E := fun q => wA.heap.size ≤ q ∧ blk (some (⟨bX, 0, none⟩ : Addr)) ≠ some q) fun q hq => ⟨hq.1, fun e => absurd hq.2 (by have := Option.some.inj (show some bX = some q from e); omega)⟩
    exact fin wB bX 5 ⟨2, 1, [(0, [0]), (0, [1]), (1, [0, 1]), (1, [-1]), (1, [])]⟩ _ ⟨⟨by decide, by decide⟩, ⟨by decide, by decide⟩, by decide, by decide, by decide⟩ (zd_ G3 gB) (rB _ G3.size) (.cons (r := (0, [0])) (Nat.le_refl _) j0 (.cons (r := (0, [1])) (Nat.le_refl _) j1 (.cons (r := (1, [0, 1])) (Nat.le_refl _) j2 (.cons (r := (1, [-1])) (Nat.le_refl _) j3 (.cons (r := (1, [])) (Nat.le_refl _) (nilF _ _) .nil)))))
  · simp only [show ¬ (((5 : Nat) : Int) = 0) from by omega, show ¬ (((5 : Nat) : Int) = 1) from by omega, show ¬ (((5 : Nat) : Int) = 2) from by omega, show ¬ (((5 : Nat) : Int) = 3) from by omega, show ¬ (((5 : Nat) : Int) = 4) from by omega, show (((5 : Nat) : Int) = 5) from by omega, decide_true, decide_false, zq18, zq19, zq20, zq21, zq22, zq23, zq24, zq25, zq26, zq27, zq28, zq4, zq3, zq1, zq2, zq0, zq29, zq30, zq14, zq15, zq16, zq17, zq13, zq10, zq12, zq11, zq7, zq5, zq6, zq9, zq8, zq31, zq32, ite_T, ite_F, zq33, zq34, zq35, Nat.reduceEqDiff, len22, len24, fa26_0, fa26_1, fa26_2, len27, fa33_0, fa33_1, len35, fa114_0, fa114_1, fa114_2, fa124_0, fa124_1, len134]
    refine zab_ u27 inf3 (cells := ints [-1, 0, -1]) (by decide) (by decide) (by simp [Instr.fill, madeCells, Value.cells, rng3, ints]) rfl fun c0 v0 _ _ g0 _ r0 => ?_
    have i0 : IntsF (fun b => wA.heap.size ≤ b) v0 (some ⟨c0, 0, none⟩) [-1, 0, -1] := (IntsF.of_own (r0 _ (Nat.le_refl _))).mono fun b hb => Nat.le_trans (Gr.refl wA).size hb.1
    have G0 := g0
    rw [bd33 (cells := #[.int .i64 0, .slice (some ⟨c0, 0, none⟩) 3 3]) rfl]
    refine zab_ u27 inf3 (cells := ints [-2, 0, -2]) (by decide) (by decide) (by simp [Instr.fill, madeCells, Value.cells, rng3, ints]) rfl fun c1 v1 _ _ g1 _ r1 => ?_
    have i1 : IntsF (fun b => wA.heap.size ≤ b) v1 (some ⟨c1, 0, none⟩) [-2, 0, -2] := (IntsF.of_own (r1 _ (Nat.le_refl _))).mono fun b hb => Nat.le_trans G0.size hb.1
    have G1 := zd_ G0 g1
    rw [bd33 (cells := #[.int .i64 0, .slice (some ⟨c1, 0, none⟩) 3 3]) rfl]
    refine zab_ u27 inf3 (cells := ints [-1]) (by decide) (by decide) (by simp [Instr.fill, madeCells, Value.cells, rng1, ints]) rfl fun c2 v2 _ _ g2 _ r2 => ?_
    have i2 : IntsF (fun b => wA.heap.size ≤ b) v2 (some ⟨c2, 0, none⟩) [-1] := (IntsF.of_own (r2 _ (Nat.le_refl _))).mono fun b hb => Nat.le_trans G1.size hb.1
    have G2 := zd_ G1 g2
    rw [bd33 (cells := #[.int .i64 0, .slice (some ⟨c2, 0, none⟩) 1 1]) rfl]
    refine zab_ u27 inf3 (cells := ints [-2]) (by decide) (by decide) (by simp [Instr.fill, madeCells, Value.cells, rng1, ints]) rfl fun c3 v3 _ _ g3 _ r3 => ?_
    have i3 : IntsF (fun b => wA.heap.size ≤ b) v3 (some ⟨c3, 0, none⟩) [-2] := (IntsF.of_own (r3 _ (Nat.le_refl _))).mono fun b hb => Nat.le_trans G2.size hb.1
    have G3 := zd_ G2 g3
    rw [bd33 (cells := #[.int .i64 0, .slice (some ⟨c3, 0, none⟩) 1 1]) rfl]
    rw [bd33 (cells := #[.int .i64 0, .slice none 0 0]) rfl]
    refine zab_ u24 zxb_ (cells := [.int .i64 0, .slice (some ⟨c0, 0, none⟩) 3 3, .int .i64 0, .slice (some ⟨c1, 0, none⟩) 3 3, .int .i64 0, .slice (some ⟨c2, 0, none⟩) 1 1, .int .i64 0, .slice (some ⟨c3, 0, none⟩) 1 1, .int .i64 0, .slice none 0 0]) (by decide) (by decide) (by simp [Instr.fill, madeCells, Value.cells, rng10]) rfl fun bX wB hX1 _ gB _ rB => ?_
    rw [bd26 (cells := #[.int .i64 1, .int .i64 2, .slice (some ⟨bX, 0, none⟩) 5 5]) rfl]
    have j0 := ((ltF (((i0.gr g1).gr g2).gr g3)).gr gB).mono (E := fun q => wA.heap.size ≤ q ∧ blk (some (⟨bX, 0, none⟩ : Addr)) ≠ some q) fun q hq => ⟨hq.1, fun e => absurd hq.2 (by have := Option.some.inj (show some bX = some q from e); omega)⟩
    have j1 := ((ltF ((i1.gr g2).gr g3)).gr gB).mono (E := fun q => wA.heap.size ≤ q ∧ blk (some (⟨bX, 0, none⟩ : Addr)) ≠ some q) fun q hq => ⟨hq.1, fun e => absurd hq.2 (by have := Option.some.inj (show some bX = some q from e); omega)⟩
    have j2 := ((ltF (i2.gr g3)).gr gB).mono (E := fun q => wA.heap.size ≤ q ∧ blk (some (⟨bX, 0, none⟩ : Addr)) ≠ some q) fun q hq => ⟨hq.1, fun e => absurd hq.2 (by have := Option.some.inj (show some bX = some q from e); omega)⟩
    have j3 := ((ltF i3).gr gB).mono (E := fun q => wA.heap.size ≤ q ∧ blk (some (⟨bX, 0, none⟩ : Addr)) ≠ some q) fun q hq => ⟨hq.1, fun e => absurd hq.2 (by have := Option.some.inj (show some bX = some q from e); omega)⟩
    exact fin wB bX 5 ⟨1, 2, [(0, [-1, 0, -1]), (0, [-2, 0, -2]), (0, [-1]), (0, [-2]), (0, [])]⟩ _ ⟨⟨by decide, by decide⟩, ⟨by decide, by decide⟩, by decide, by decide, by decide⟩ (zd_ G3 gB) (rB _ G3.size) (.cons (r := (0, [-1, 0, -1])) (Nat.le_refl _) j0 (.cons (r := (0, [-2, 0, -2])) (Nat.le_refl _) j1 (.cons (r := (0, [-1])) (Nat.le_refl _) j2 (.cons (r := (0, [-2])) (Nat.le_refl _) j3 (.cons (r := (0, [])) (Nat.le_refl _) (nilF _ _) .nil)))))
  · simp only [show ¬ (((6 : Nat) : Int) = 0) from by omega, show ¬ (((6 : Nat) : Int) = 1) from by omega, show ¬ (((6 : Nat) : Int) = 2) from by omega, show ¬ (((6 : Nat) : Int) = 3) from by omega, show ¬ (((6 : Nat) : Int) = 4) from by omega, show ¬ (((6 : Nat) : Int) = 5) from by omega, show (((6 : Nat) : Int) = 6) from by omega, decide_true, decide_false, zq18, zq19, zq20, zq21, zq22, zq23, zq24, zq25, zq26, zq27, zq28, zq4, zq3, zq1, zq2, zq0, zq29, zq30, zq14, zq15, zq16, zq17, zq13, zq10, zq12, zq11, zq7, zq5, zq6, zq9, zq8, zq31, zq32, ite_T, ite_F, zq33, zq34, zq35, Nat.reduceEqDiff, len22, len24, fa26_0, fa26_1, fa26_2, len27, fa33_0, fa33_1, len35, fa114_0, fa114_1, fa114_2, fa124_0, fa124_1, len134]
    refine zab_ u27 inf3 (cells := ints [1, 2]) (by decide) (by decide) (by simp [Instr.fill, madeCells, Value.cells, rng2, ints]) rfl fun c0 v0 _ _ g0 _ r0 => ?_
    have i0 : IntsF (fun b => wA.heap.size ≤ b) v0 (some ⟨c0, 0, none⟩) [1, 2] := (IntsF.of_own (r0 _ (Nat.le_refl _))).mono fun b hb => Nat.le_trans (Gr.refl wA).size hb.1
    have G0 := g0
    rw [bd33 (cells := #[.int .i64 0, .slice (some ⟨c0, 0, none⟩) 2 2]) rfl]
    refine zab_ u27 inf3 (cells := ints [-1, 1]) (by decide) (by decide) (by simp [Instr.fill, madeCells, Value.cells, rng2, ints]) rfl fun c1 v1 _ _ g1 _ r1 => ?_
    have i1 : IntsF (fun b => wA.heap.size ≤ b) v1 (some ⟨c1, 0, none⟩) [-1, 1] := (IntsF.of_own (r1 _ (Nat.le_refl _))).mono fun b hb => Nat.le_trans G0.size hb.1
    have G1 := zd_ G0 g1
    rw [bd33 (cells := #[.int .i64 1, .slice (some ⟨c1, 0, none⟩) 2 2]) rfl]
    rw [bd33 (cells := #[.int .i64 1, .slice none 0 0]) rfl]
    refine zab_ u27 inf3 (cells := ints [-2, 2]) (by decide) (by decide) (by simp [Instr.fill, madeCells, Value.cells, rng2, ints]) rfl fun c3 v3 _ _ g3 _ r3 => ?_
    have i3 : IntsF (fun b => wA.heap.size ≤ b) v3 (some ⟨c3, 0, none⟩) [-2, 2] := (IntsF.of_own (r3 _ (Nat.le_refl _))).mono fun b hb => Nat.le_trans G1.size hb.1
    have G3 := zd_ G1 g3
    rw [bd33 (cells := #[.int .i64 2, .slice (some ⟨c3, 0, none⟩) 2 2]) rfl]
    rw [bd33 (cells := #[.int .i64 2, .slice none 0 0]) rfl]
    refine zab_ u24 zxb_ (cells := [.int .i64 0, .slice (some ⟨c0, 0, none⟩) 2 2, .int .i64 1, .slice (some ⟨c1, 0, none⟩) 2 2, .int .i64 1, .slice none 0 0, .int .i64 2, .slice (some ⟨c3, 0, none⟩) 2 2, .int .i64 2, .slice none 0 0]) (by decide) (by decide) (by simp [Instr.fill, madeCells, Value.cells, rng10]) rfl fun bX wB hX1 _ gB _ rB => ?_
    rw [bd26 (cells := #[.int .i64 3, .int .i64 2, .slice (some ⟨bX, 0, none⟩) 5 5]) rfl]
    have j0 := ((ltF ((i0.gr g1).gr g3)).gr gB).mono (E := fun q => wA.heap.size ≤ q ∧ blk (some (⟨bX, 0, none⟩ : Addr)) ≠ some q) fun q hq => ⟨hq.1, fun e => absurd hq.2 (by have := Option.some.inj (show some bX = some q from e); omega)⟩
    have j1 := ((ltF (i1.gr g3)).gr gB).mono (E := fun q => wA.heap.size ≤ q ∧ blk (some (⟨bX, 0, none⟩ : Addr)) ≠ some q) fun q hq => ⟨hq.1, fun e => absurd hq.2 (by have := Option.some.inj (show some bX = some q from e); omega)⟩
    have j3 := ((ltF i3).gr gB).mono (E := fun q => wA.heap.size ≤ q ∧ blk (some (⟨bX, 0, none⟩ : Addr)) ≠ some q) fun q hq => ⟨hq.1, fun e => absurd hq.2 (by have := Option.some.inj (show some bX = some q from e); omega)⟩
    exact fin wB bX 5 ⟨3, 2, [(0, [1, 2]), (1, [-1, 1]), (1, []), (2, [-2, 2]), (2, [])]⟩ _ ⟨⟨by decide, by decide⟩, ⟨by decide, by decide⟩, by decide, by decide, by decide⟩ (zd_ G3 gB) (rB _ G3.size) (.cons (r := (0, [1, 2])) (Nat.le_refl _) j0 (.cons (r := (1, [-1, 1])) (Nat.le_refl _) j1 (.cons (r := (1, [])) (Nat.le_refl _) (nilF _ _) (.cons (r := (2, [-2, 2])) (Nat.le_refl _) j3 (.cons (r := (2, [])) (Nat.le_refl _) (nilF _ _) .nil)))))
  · simp only [show ¬ (((7 : Nat) : Int) = 0) from by omega, show ¬ (((7 : Nat) : Int) = 1) from by omega, show ¬ (((7 : Nat) : Int) = 2) from by omega, show ¬ (((7 : Nat) : Int) = 3) from by omega, show ¬ (((7 : Nat) : Int) = 4) from by omega, show ¬ (((7 : Nat) : Int) = 5) from by omega, show ¬ (((7 : Nat) : Int) = 6) from by omega, decide_true, decide_false, zq18, zq19, zq20, zq21, zq22, zq23, zq24, zq25, zq26, zq27, zq28, zq4, zq3, zq1, zq2, zq0, zq29, zq30, zq14, zq15, zq16, zq17, zq13, zq10, zq12, zq11, zq7, zq5, zq6, zq9, zq8, zq31, zq32, ite_T, ite_F, zq33, zq34, zq35, Nat.reduceEqDiff, len22, len24, fa26_0, fa26_1, fa26_2, len27, fa33_0, fa33_1, len35, fa114_0, fa114_1, fa114_2, fa124_0, fa124_1, len134]
    refine zab_ u27 inf3 (cells := ints [0, 0]) (by decide) (by decide) (by simp [Instr.fill, madeCells, Value.cells, rng2, ints]) rfl fun c0 v0 _ _ g0 _ r0 => ?_
    have i0 : IntsF (fun b => wA.heap.size ≤ b) v0 (some ⟨c0, 0, none⟩) [0, 0] := (IntsF.of_own (r0 _ (Nat.le_refl _))).mono fun b hb => Nat.le_trans (Gr.refl wA).size hb.1
    have G0 := g0
    rw [bd33 (cells := #[.int .i64 0, .slice (some ⟨c0, 0, none⟩) 2 2]) rfl]
    refine zab_ u27 inf3 (cells := ints [-1]) (by decide) (by decide) (by simp [Instr.fill, madeCells, Value.cells, rng1, ints]) rfl fun c1 v1 _ _ g1 _ r1 => ?_
    have i1 : IntsF (fun b => wA.heap.size ≤ b) v1 (some ⟨c1, 0, none⟩) [-1] := (IntsF.of_own (r1 _ (Nat.le_refl _))).mono fun b hb => Nat.le_trans G0.size hb.1
    have G1 := zd_ G0 g1
    rw [bd33 (cells := #[.int .i64 0, .slice (some ⟨c1, 0, none⟩) 1 1]) rfl]
    refine zab_ u27 inf3 (cells := ints [-2, 1]) (by decide) (by decide) (by simp [Instr.fill, madeCells, Value.cells, rng2, ints]) rfl fun c2 v2 _ _ g2 _ r2 => ?_
    have i2 : IntsF (fun b => wA.heap.size ≤ b) v2 (some ⟨c2, 0, none⟩) [-2, 1] := (IntsF.of_own (r2 _ (Nat.le_refl _))).mono fun b hb => Nat.le_trans G1.size hb.1
    have G2 := zd_ G1 g2
    rw [bd33 (cells := #[.int .i64 1, .slice (some ⟨c2, 0, none⟩) 2 2]) rfl]
    refine zab_ u24 zxb_ (cells := [.int .i64 0, .slice (some ⟨c0, 0, none⟩) 2 2, .int .i64 0, .slice (some ⟨c1, 0, none⟩) 1 1, .int .i64 1, .slice (some ⟨c2, 0, none⟩) 2 2]) (by decide) (by decide) (by simp [Instr.fill, madeCells, Value.cells, rng6]) rfl fun bX wB hX1 _ gB _ rB => ?_
    rw [bd26 (cells := #[.int .i64 2, .int .i64 2, .slice (some ⟨bX, 0, none⟩) 3 3]) rfl]
    have j0 := ((ltF ((i0.gr g1).gr g2)).gr gB).mono (E := fun q => wA.heap.size ≤ q ∧ blk (some (⟨bX, 0, none⟩ : Addr)) ≠ some q) fun q hq => ⟨hq.1, fun e => absurd hq.2 (by have := Option.some.inj (show some bX = some q from e); omega)⟩
    have j1 := ((ltF (i1.gr g2)).gr gB).mono (E := fun q => wA.heap.size ≤ q ∧ blk (some (⟨bX, 0, none⟩ : Addr)) ≠ some q) fun q hq => ⟨hq.1, fun e => absurd hq.2 (by have := Option.some.inj (show some bX = some q from e); omega)⟩
    have j2 := ((ltF i2).gr gB).mono (E := fun q => wA.heap.size ≤ q ∧ blk (some (⟨bX, 0, none⟩ : Addr)) ≠ some q) fun q hq => ⟨hq.1, fun e => absurd hq.2 (by have := Option.some.inj (show some bX = some q from e); omega)⟩
    exact fin wB bX 3 ⟨2, 2, [(0, [0, 0]), (0, [-1]), (1, [-2, 1])]⟩ _ ⟨⟨by decide, by decide⟩, ⟨by decide, by decide⟩, by decide, by decide, by decide⟩ (zd_ G2 gB) (rB _ G2.size) (.cons (r := (0, [0, 0])) (Nat.le_refl _) j0 (.cons (r := (0, [-1])) (Nat.le_refl _) j1 (.cons (r := (1, [-2, 1])) (Nat.le_refl _) j2 .nil)))
end
section
variable {w0 w : World} {L E : List Thing} {bc N : Nat} {C : Option Addr} {cap : Nat} {bs : List Int} {k : Value → World → Prop}
theorem zpd_ {n m : Nat} {cv : Value} (H : Apt w0 w (cur bc cv n :: E)) (h : n ≤ m) : Apt w0 w (cur bc cv m :: E) := by
  obtain ⟨a, s, h0, h1, H⟩ := H.openCur 0 rfl
  simp only [List.set_cons_zero] at H
  have H := H.shutCur (N := m) 0 rfl h0 (by omega)
  simpa only [List.set_cons_zero] using H
theorem nilGow {e : Nat} (H : Apt w0 w L) : Apt w0 w (L ++ [gow e (fun _ => False) none 0 []]) :=
  H.add (Gr.refl w) _ (fun q hq => by rcases hq with hq | hq; cases hq; exact hq.elim) (fun q hq => by rcases hq with hq | hq; cases hq; exact hq.elim) (zvf_ (B := 0) ⟨[], Row.nil _ _ _ _, .nil⟩)
theorem set_same {i : Nat} {a : Thing} (hi : L[i]? = some a) : L.set i a = L := by
  obtain ⟨h, e⟩ := List.getElem?_eq_some_iff.1 hi
  rw [← e, List.set_getElem_self]
theorem forget (H : Apt w0 w L) (j : Nat) {a : Thing} (hj : L[j]? = some a) : Apt w0 w (L.set j emp) :=
  H.weaken j hj (fun q hq => hq.elim) (fun _ _ _ => trivial) fun _ _ _ _ => trivial
theorem blk_ad {w : World} {B e sz n c : Nat} {X : Option Addr} {cells : List Value} (h : Row w B e sz X n c cells) (hn : 0 < n) : blk X = some (ad X).block := by
  have := h.ptr hn
  conv => lhs; rw [this]
  rfl
set_option maxHeartbeats 1600000 in
theorem put2_c (H : Apt w0 w L) (i j : Nat) (hij : i ≠ j) {X Y : Option Addr} {c d : Nat} {rs : List RuleL} {r : RuleL} {ft : Nat → Prop} (hi : L[i]? = some (gth ft X c rs)) (hj : L[j]? = some (ows Y d r.2)) (hl : rs.length ≤ 1000)
    (hk : ∀ w' ft' X' c' rs', (rs' = rs ∧ 0 < rs.length ∨ rs' = rs ++ [r]) → Apt w0 w' ((L.set i (gth ft' X' c' rs')).set j emp) → k (.slice X' (List.length rs') c') w') :
    CallK Try.prog 304 [.slice X rs.length c, .agg #[.int .i64 r.1, .slice Y r.2.length d]] k w := by
  refine enter304 ?_
  unfold S304
  refine zwb_ fun b1 w1 g1 hb1 hB1 => ?_
  have H := H.step g1
  have hR := (H.gow i hi).read
  have hY := H.own j hj
  simp only [zq18, zq19, zq20, zq21, zq22, zq23, zq24, zq25, zq26, zq27, zq28, zq4, zq3, zq1, zq2, zq0, zq29, zq30, zq14, zq15, zq16, zq17, zq13, zq10, zq12, zq11, zq7, zq5, zq6, zq9, zq8, zq31, zq32, ite_T, ite_F, zq33, zq34, zq35, Nat.reduceEqDiff, len22, len24, fa26_0, fa26_1, fa26_2, len27, fa33_0, fa33_1, len35, fa114_0, fa114_1, fa114_2, fa124_0, fa124_1, len134]
  refine ztb_ rs.length 0 (fun q f w' => q ≤ rs.length ∧ f 9 = .int .i64 q ∧ Gr w1 w') ⟨Nat.zero_le _, rfl, Gr.refl _⟩ ?_
  rintro q f w2 NN hag ⟨hq, h9, g2⟩ hN
  have f0 : f 0 = .slice X rs.length c := hag 0 (by decide)
  have f3 : f 3 = ptrv b1 := hag 3 (by decide)
  have f7 : f 7 = .slice X rs.length c := hag 7 (by decide)
  have f8 : f 8 = .int .i64 rs.length := hag 8 (by decide)
  simp only [f0, f3, f7, f8, h9, zq18, zq19, zq20, zq21, zq22, zq23, zq24, zq25, zq26, zq27, zq28, zq4, zq3, zq1, zq2, zq0, zq29, zq30, zq14, zq15, zq16, zq17, zq13, zq10, zq12, zq11, zq7, zq5, zq6, zq9, zq8, zq31, zq32, ite_T, ite_F, zq33, zq34, zq35, Nat.reduceEqDiff, len22, len24, fa26_0, fa26_1, fa26_2, len27, fa33_0, fa33_1, len35, fa114_0, fa114_1, fa114_2, fa124_0, fa124_1, len134]
  have H2 := H.step g2
  have hB2 := hB1.gr g2
  by_cases hlt : q < rs.length
  case neg =>
    simp only [show ¬ ((q : Int) < rs.length) from by omega, decide_false, zq18, zq19, zq20, zq21, zq22, zq23, zq24, zq25, zq26, zq27, zq28, zq4, zq3, zq1, zq2, zq0, zq29, zq30, zq14, zq15, zq16, zq17, zq13, zq10, zq12, zq11, zq7, zq5, zq6, zq9, zq8, zq31, zq32, ite_T, ite_F, zq33, zq34, zq35, Nat.reduceEqDiff, len22, len24, fa26_0, fa26_1, fa26_2, len27, fa33_0, fa33_1, len35, fa114_0, fa114_1, fa114_2, fa124_0, fa124_1, len134]
    rw [zj_ zhc_ sz33 rfl hB2]
    refine zab_ u24 zxb_ (cells := [.int .i64 r.1, .slice Y r.2.length d]) (by decide) (by decide) (by simp [Instr.fill, madeCells, Value.cells, rng1, rng2]) rfl fun b5 w5 hb5 hb6 g5 _ r5 => ?_
    have H5 := H2.step g5
    obtain ⟨cells, hrow, hrc⟩ := H5.gow i hi
    have hY5 := H5.own j hj
    have hXY : ∀ q, blk Y = some q → blk X ≠ some q := fun q hq e => H5.two i j _ _ hij hi hj q (.inl e) hq
    refine zcg_ u24 zxb_ rfl (by decide) hrow (Row.src (r5 _ (Nat.le_refl _))) rfl (by intro v hv; simp at hv; rcases hv with rfl | rfl <;> rfl) (by omega) (by omega) (Nat.zero_le _) fun X' c' w' hr' hg hmv => ?_
    have hnew : ∀ q, q < w5.heap.size → blk X ≠ some q → blk X' ≠ some q := fun q hq hn e => by
      rcases hmv with h1 | h1
      · exact hn (h1 ▸ e)
      · have := h1 q e
        omega
    have hrc2 : RuleCells (fun q => (ft q ∨ blk Y = some q) ∧ blk X' ≠ some q) w' (rs ++ [r]) (cells ++ [.int .i64 r.1, .slice Y r.2.length d]) := by
      refine RuleCells.append ((hrc.lt.same fun q hq => hg.block q hq.2 fun e => hq.1.2 e.symm).mono fun q hq => ⟨.inl hq.1.1, hnew q hq.2 hq.1.2⟩) (.cons (Row.cap hY5).1 ?_ .nil)
      have hf : IntsF (fun q => blk Y = some q ∧ q < w5.heap.size) w5 Y r.2 := ⟨Own.ints hY5, fun hp => ⟨blk_ad hY5 hp, ((IntsF.of_own hY5).foot hp).2⟩⟩
      exact (hf.same' fun q hq => hg.block q hq.2 fun e => hXY q hq.1 e.symm).mono fun q hq => ⟨.inr hq.1, hnew q hq.2 (hXY q hq.1)⟩
    have hlen : rs.length + 1 = (rs ++ [r]).length := by simp
    rw [hlen] at hr' ⊢
    refine hk w' (fun q => ft q ∨ blk Y = some q) X' c' (rs ++ [r]) (.inr rfl) (H5.join (it := gth (fun q => ft q ∨ blk Y = some q) X' c' (rs ++ [r])) hij hi hj (gx_of hg fun q hq => .inl (.inl hq)) (fun q hq => ?_) (fun q hq => ?_) (zvf_ ⟨_, hr', hrc2⟩))
    · rcases hq with hq | hq | hq
      · rcases hmv with e | e
        · exact .inl (.inl (e ▸ hq))
        · exact .inr (.inr (e q hq))
      · exact .inl (.inr hq)
      · exact .inr (.inl hq)
    · rcases hq with hq | hq | hq
      · exact (hr'.ge hq).2
      · exact Nat.lt_of_lt_of_le ((H5.ok i _ hi).hi q (.inr hq)) hg.size
      · exact Nat.lt_of_lt_of_le ((H5.ok j _ hj).hi q hq) hg.size
  simp only [show ((q : Int) < rs.length) from by omega, decide_true, zq18, zq19, zq20, zq21, zq22, zq23, zq24, zq25, zq26, zq27, zq28, zq4, zq3, zq1, zq2, zq0, zq29, zq30, zq14, zq15, zq16, zq17, zq13, zq10, zq12, zq11, zq7, zq5, zq6, zq9, zq8, zq31, zq32, ite_T, ite_F, zq33, zq34, zq35, Nat.reduceEqDiff, len22, len24, fa26_0, fa26_1, fa26_2, len27, fa33_0, fa33_1, len35, fa114_0, fa114_1, fa114_2, fa124_0, fa124_1, len134]
  obtain ⟨Z, cz, t1, t2, t3, t4⟩ := hR.row q hlt
  refine rdi (zic_ hR.ptr hlt) ?_
  rw [zfh_ zhc_ sz33 (cs := [.int .i64 (rul rs q).1, .slice Z (rul rs q).2.length cz]) rfl (fun j hj => by
    match j, hj with
    | 0, _ => rw [zbc_, Nat.add_zero]; exact g2.cell t1
    | 1, _ => rw [zbc_]; exact g2.cell t2)]
  have G := Apt.nil w2
  refine zkc_ G zxb_ fun b4 w4 G => ?_
  simp only [List.nil_append] at G
  refine zub_ G 0 rfl sz33 rfl rfl rfl fun w5 G => ?_
  simp only [List.set_cons_zero] at G
  rw [zj_ zhc_ sz33 rfl (hB2.gr G.gr), zj_ zhc_ sz33 rfl (G.box 0 rfl)]
  refine zgh_ (F := fun _ => True) (E := fun _ => True) (r := r) (q := rul rs q) ⟨Y, d, rfl, (Row.cap hY).1, ⟨(Own.ints hY).gr (zd_ g2 G.gr), fun _ => trivial⟩⟩ ⟨Z, cz, rfl, t3, (t4.gr (zd_ g2 G.gr)).mono fun _ _ => trivial⟩ fun w6 g6 => ?_
  have g26 := zd_ g2 (zd_ G.gr g6)
  by_cases he : r = rul rs q
  · rw [decide_eq_true he]
    simp only [zq18, zq19, zq20, zq21, zq22, zq23, zq24, zq25, zq26, zq27, zq28, zq4, zq3, zq1, zq2, zq0, zq29, zq30, zq14, zq15, zq16, zq17, zq13, zq10, zq12, zq11, zq7, zq5, zq6, zq9, zq8, zq31, zq32, ite_T, ite_F, zq33, zq34, zq35, Nat.reduceEqDiff, len22, len24, fa26_0, fa26_1, fa26_2, len27, fa33_0, fa33_1, len35, fa114_0, fa114_1, fa114_2, fa124_0, fa124_1, len134]
    have H6 := forget (H.step g26) j hj
    have := hk w6 ft X c rs (.inl ⟨rfl, by omega⟩)
    rw [set_same hi] at this
    exact this H6
  · rw [decide_eq_false he]
    simp only [zq18, zq19, zq20, zq21, zq22, zq23, zq24, zq25, zq26, zq27, zq28, zq4, zq3, zq1, zq2, zq0, zq29, zq30, zq14, zq15, zq16, zq17, zq13, zq10, zq12, zq11, zq7, zq5, zq6, zq9, zq8, zq31, zq32, ite_T, ite_F, zq33, zq34, zq35, Nat.reduceEqDiff, len22, len24, fa26_0, fa26_1, fa26_2, len27, fa33_0, fa33_1, len35, fa114_0, fa114_1, fa114_2, fa124_0, fa124_1, len134]
    rw [zt_ (by omega) (by omega)]
    exact hN _ _ hlt ⟨hlt, rfl, g26⟩
end
section
variable {w0 w : World} {E : List Thing} {bc N : Nat} {C : Option Addr} {cap : Nat} {bs : List Int} {k : Value → World → Prop}
set_option maxHeartbeats 6400000 in
theorem grammar_c (H : Apt w0 w (cur bc (.slice C bs.length cap) N :: E)) (hC : Byts w0 C bs) (hN : N ≤ 1000000) (hk : ∀ w' gm ft X c, Drawn 100 gm → Apt w0 w' (cur bc (.slice C bs.length cap) (N + 500) :: gth ft X c gm.rules :: E) → k (.agg #[.int .i64 gm.nons, .int .i64 gm.toks, .slice X gm.rules.length c]) w') :
    CallK Try.prog 246 [ptrv bc] k w := by
  refine enter246 ?_
  unfold S246
  refine zkc_ H zdc_ fun b1 w1 H => ?_
  have H := H.insert 1
  simp only [List.take_succ_cons, List.take_zero, List.drop_succ_cons, List.drop_zero, List.nil_append, List.cons_append] at H
  refine one_c H 0 rfl hC (by omega) (by omega) fun w2 b H => ?_
  simp only [List.set_cons_zero] at H
  cases b
  case true =>
    simp only [zq18, zq19, zq20, zq21, zq22, zq23, zq24, zq25, zq26, zq27, zq28, zq4, zq3, zq1, zq2, zq0, zq29, zq30, zq14, zq15, zq16, zq17, zq13, zq10, zq12, zq11, zq7, zq5, zq6, zq9, zq8, zq31, zq32, ite_T, ite_F, zq33, zq34, zq35, Nat.reduceEqDiff, len22, len24, fa26_0, fa26_1, fa26_2, len27, fa33_0, fa33_1, len35, fa114_0, fa114_1, fa114_2, fa124_0, fa124_1, len134]
    refine known_c H hC (by omega) fun w3 gm ft X c hd H => ?_
    refine zub_ H 2 rfl sz26 rfl rfl rfl fun w4 H => ?_
    simp only [List.set_cons_zero, List.set_cons_succ] at H
    rw [zcb_, zj_ zu_ sz26 rfl (H.box 2 rfl)]
    have H := H.erase 2
    simp only [List.eraseIdx_cons_zero, List.eraseIdx_cons_succ] at H
    exact hk w4 gm ft X c hd (zpd_ H (by omega))
  simp only [zq18, zq19, zq20, zq21, zq22, zq23, zq24, zq25, zq26, zq27, zq28, zq4, zq3, zq1, zq2, zq0, zq29, zq30, zq14, zq15, zq16, zq17, zq13, zq10, zq12, zq11, zq7, zq5, zq6, zq9, zq8, zq31, zq32, ite_T, ite_F, zq33, zq34, zq35, Nat.reduceEqDiff, len22, len24, fa26_0, fa26_1, fa26_2, len27, fa33_0, fa33_1, len35, fa114_0, fa114_1, fa114_2, fa124_0, fa124_1, len134]
  refine zvc_ H 0 rfl hC (by omega) (by omega) fun w3 a _ ha H => ?_
  simp only [List.set_cons_zero, zq18, zq19, zq20, zq21, zq22, zq23, zq24, zq25, zq26, zq27, zq28, zq4, zq3, zq1, zq2, zq0, zq29, zq30, zq14, zq15, zq16, zq17, zq13, zq10, zq12, zq11, zq7, zq5, zq6, zq9, zq8, zq31, zq32, ite_T, ite_F, zq33, zq34, zq35, Nat.reduceEqDiff, len22, len24, fa26_0, fa26_1, fa26_2, len27, fa33_0, fa33_1, len35, fa114_0, fa114_1, fa114_2, fa124_0, fa124_1, len134] at H ⊢
  have ha := ha (by omega)
  refine zvc_ H 0 rfl hC (by omega) (by omega) fun w4 t _ ht H => ?_
  simp only [List.set_cons_zero, zq18, zq19, zq20, zq21, zq22, zq23, zq24, zq25, zq26, zq27, zq28, zq4, zq3, zq1, zq2, zq0, zq29, zq30, zq14, zq15, zq16, zq17, zq13, zq10, zq12, zq11, zq7, zq5, zq6, zq9, zq8, zq31, zq32, ite_T, ite_F, zq33, zq34, zq35, Nat.reduceEqDiff, len22, len24, fa26_0, fa26_1, fa26_2, len27, fa33_0, fa33_1, len35, fa114_0, fa114_1, fa114_2, fa124_0, fa124_1, len134] at H ⊢
  have ht := ht (by omega)
  rw [zt_ (n := 1 + (a : Int)) (by omega) (by omega), zt_ (n := 1 + (t : Int)) (by omega) (by omega)]
  rw [bd26 (cells := #[.int .i64 (1 + (a : Int)), .int .i64 (1 + (t : Int)), .slice none 0 0]) rfl]
  refine zkc_ H zdc_ fun b2 w5 H => ?_
  have H := H.insert 1
  simp only [List.take_succ_cons, List.take_zero, List.drop_succ_cons, List.drop_zero, List.nil_append, List.cons_append] at H
  refine zub_ H 1 rfl sz26 rfl rfl rfl fun w6 H => ?_
  simp only [List.set_cons_zero, List.set_cons_succ] at H
  refine zvc_ H 0 rfl hC (by omega) (by omega) fun w7 n0 _ hn0 H => ?_
  simp only [List.set_cons_zero, zq18, zq19, zq20, zq21, zq22, zq23, zq24, zq25, zq26, zq27, zq28, zq4, zq3, zq1, zq2, zq0, zq29, zq30, zq14, zq15, zq16, zq17, zq13, zq10, zq12, zq11, zq7, zq5, zq6, zq9, zq8, zq31, zq32, ite_T, ite_F, zq33, zq34, zq35, Nat.reduceEqDiff, len22, len24, fa26_0, fa26_1, fa26_2, len27, fa33_0, fa33_1, len35, fa114_0, fa114_1, fa114_2, fa124_0, fa124_1, len134] at H ⊢
  have hn0 := hn0 (by omega)
  rw [zt_ (n := 1 + (n0 : Int)) (by omega) (by omega)]
  have H := (nilGow (e := 33) H).insert 1
  simp only [List.take_succ_cons, List.take_zero, List.drop_succ_cons, List.drop_zero, List.nil_append, List.cons_append] at H
  refine zjf_ (fun m f w' => m ≤ 1 + n0 ∧ f 4 = .int .i64 (m : Int) ∧ ∃ N' ft X c, ∃ rs : List RuleL, N' ≤ N + 20 + (1 + n0 - m) * 40 ∧ rs.length ≤ 1 + n0 - m ∧ (m < 1 + n0 → 0 < rs.length) ∧ (∀ r ∈ rs, r.2.length ≤ 1000) ∧ Apt w0 w' (cur bc (.slice C bs.length cap) N' :: gth ft X c rs :: bx b2 [.int .i64 (1 + (a : Int)), .int .i64 (1 + (t : Int)), .slice X rs.length c] 26 :: bx b1 [.int .i64 0, .int .i64 0, .slice none 0 0] 26 :: E)) (fun m => m) (1 + n0)
    ⟨Nat.le_refl _, rfl, _, _, none, 0, [], by omega, by simp, fun h => by omega, by simp, H⟩ ?_
  clear H
  rintro m f w8 NN hag ⟨hm, f4, N', ft, X, c, rs, hN', hrs, hpos, hrg, H⟩ hN2
  have f0 : f 0 = ptrv bc := hag 0 (by decide)
  have f2 : f 2 = ptrv b1 := hag 2 (by decide)
  have f3 : f 3 = ptrv b2 := hag 3 (by decide)
  simp only [f0, f3, f4, zq18, zq19, zq20, zq21, zq22, zq23, zq24, zq25, zq26, zq27, zq28, zq4, zq3, zq1, zq2, zq0, zq29, zq30, zq14, zq15, zq16, zq17, zq13, zq10, zq12, zq11, zq7, zq5, zq6, zq9, zq8, zq31, zq32, ite_T, ite_F, zq33, zq34, zq35, Nat.reduceEqDiff, len22, len24, fa26_0, fa26_1, fa26_2, len27, fa33_0, fa33_1, len35, fa114_0, fa114_1, fa114_2, fa124_0, fa124_1, len134]
  by_cases hm0 : 0 < m
  case neg =>
    simp only [show ¬ ((0 : Int) < (m : Int)) from by omega, decide_false, zq18, zq19, zq20, zq21, zq22, zq23, zq24, zq25, zq26, zq27, zq28, zq4, zq3, zq1, zq2, zq0, zq29, zq30, zq14, zq15, zq16, zq17, zq13, zq10, zq12, zq11, zq7, zq5, zq6, zq9, zq8, zq31, zq32, ite_T, ite_F, zq33, zq34, zq35, Nat.reduceEqDiff, len22, len24, fa26_0, fa26_1, fa26_2, len27, fa33_0, fa33_1, len35, fa114_0, fa114_1, fa114_2, fa124_0, fa124_1, len134]
    simp only [f2, f3, zq18, zq19, zq20, zq21, zq22, zq23, zq24, zq25, zq26, zq27, zq28, zq4, zq3, zq1, zq2, zq0, zq29, zq30, zq14, zq15, zq16, zq17, zq13, zq10, zq12, zq11, zq7, zq5, zq6, zq9, zq8, zq31, zq32, ite_T, ite_F, zq33, zq34, zq35, Nat.reduceEqDiff, len22, len24, fa26_0, fa26_1, fa26_2, len27, fa33_0, fa33_1, len35, fa114_0, fa114_1, fa114_2, fa124_0, fa124_1, len134]
    rw [zj_ zu_ sz26 rfl (H.box 2 rfl)]
    refine zub_ H 3 rfl sz26 rfl rfl rfl fun w9 H => ?_
    simp only [List.set_cons_zero, List.set_cons_succ] at H
    rw [zcb_, zj_ zu_ sz26 rfl (H.box 3 rfl)]
    have H := (H.erase 3).erase 2
    simp only [List.eraseIdx_cons_zero, List.eraseIdx_cons_succ] at H
    exact hk w9 ⟨1 + (a : Int), 1 + (t : Int), rs⟩ ft X c ⟨⟨by show 0 ≤ 1 + (a : Int); omega, by show 1 + (a : Int) ≤ 1000; omega⟩, ⟨by show 0 ≤ 1 + (t : Int); omega, by show 1 + (t : Int) ≤ 1000; omega⟩, hpos (by omega), by show rs.length ≤ 100; omega, hrg⟩ (zpd_ H (by omega))
  simp only [show ((0 : Int) < (m : Int)) from by omega, decide_true, zq18, zq19, zq20, zq21, zq22, zq23, zq24, zq25, zq26, zq27, zq28, zq4, zq3, zq1, zq2, zq0, zq29, zq30, zq14, zq15, zq16, zq17, zq13, zq10, zq12, zq11, zq7, zq5, zq6, zq9, zq8, zq31, zq32, ite_T, ite_F, zq33, zq34, zq35, Nat.reduceEqDiff, len22, len24, fa26_0, fa26_1, fa26_2, len27, fa33_0, fa33_1, len35, fa114_0, fa114_1, fa114_2, fa124_0, fa124_1, len134]
  rw [ldB3 (H.box 2 rfl) rfl]
  refine zvc_ H 0 rfl hC (by omega) (by omega) fun w9 l _ hl H => ?_
  simp only [List.set_cons_zero] at H
  rw [bd33 (cells := #[.int .i64 (l : Int), .slice none 0 0]) rfl]
  refine zkc_ H zxb_ fun b3 w10 H => ?_
  have H := H.insert 2
  simp only [List.take_succ_cons, List.take_zero, List.drop_succ_cons, List.drop_zero, List.nil_append, List.cons_append] at H
  refine zub_ H 2 rfl sz33 rfl rfl rfl fun w11 H => ?_
  simp only [List.set_cons_zero, List.set_cons_succ] at H
  refine zvc_ H 0 rfl hC (by omega) (by omega) fun w12 kk _ hkk H => ?_
  simp only [List.set_cons_zero] at H
  have hkk := hkk (by omega)
  have H := (H.addOwn (Gr.refl _) (show Own 3 w12 w12.heap.size none 0 [] from Row.nil _ _ _ _)).insert 3
  simp only [List.take_succ_cons, List.take_zero, List.drop_succ_cons, List.drop_zero, List.nil_append, List.cons_append] at H
  refine zjf_ (fun o f w' => o ≤ kk ∧ f 6 = .int .i64 (o : Int) ∧ f 4 = .int .i64 (m : Int) ∧ ∃ N2 Z d, ∃ xs : List Int, N2 ≤ N' + 4 + (kk - o) * 6 ∧ xs.length ≤ kk - o ∧ Apt w0 w' (cur bc (.slice C bs.length cap) N2 :: gth ft X c rs :: bx b3 [.int .i64 (l : Int), .slice Z xs.length d] 33 :: ows Z d xs :: bx b2 [.int .i64 (1 + (a : Int)), .int .i64 (1 + (t : Int)), .slice X rs.length c] 26 :: bx b1 [.int .i64 0, .int .i64 0, .slice none 0 0] 26 :: E)) (fun o => o) kk
    ⟨Nat.le_refl _, rfl, f4, _, none, 0, [], by omega, by simp, H⟩ ?_
  clear H
  rintro o g w13 N3 hag2 ⟨ho, g6, g4, N2, Z, d, xs, hN2', hxs, H⟩ hN4
  have g0 : g 0 = ptrv bc := (hag2 0 (by decide)).trans f0
  have g3 : g 3 = ptrv b2 := (hag2 3 (by decide)).trans f3
  have g5 : g 5 = ptrv b3 := hag2 5 (by decide)
  simp only [g0, g3, g6, zq18, zq19, zq20, zq21, zq22, zq23, zq24, zq25, zq26, zq27, zq28, zq4, zq3, zq1, zq2, zq0, zq29, zq30, zq14, zq15, zq16, zq17, zq13, zq10, zq12, zq11, zq7, zq5, zq6, zq9, zq8, zq31, zq32, ite_T, ite_F, zq33, zq34, zq35, Nat.reduceEqDiff, len22, len24, fa26_0, fa26_1, fa26_2, len27, fa33_0, fa33_1, len35, fa114_0, fa114_1, fa114_2, fa124_0, fa124_1, len134]
  by_cases ho0 : 0 < o
  case neg =>
    simp only [show ¬ ((0 : Int) < (o : Int)) from by omega, decide_false, zq18, zq19, zq20, zq21, zq22, zq23, zq24, zq25, zq26, zq27, zq28, zq4, zq3, zq1, zq2, zq0, zq29, zq30, zq14, zq15, zq16, zq17, zq13, zq10, zq12, zq11, zq7, zq5, zq6, zq9, zq8, zq31, zq32, ite_T, ite_F, zq33, zq34, zq35, Nat.reduceEqDiff, len22, len24, fa26_0, fa26_1, fa26_2, len27, fa33_0, fa33_1, len35, fa114_0, fa114_1, fa114_2, fa124_0, fa124_1, len134]
    simp only [g3, g4, g5, zq18, zq19, zq20, zq21, zq22, zq23, zq24, zq25, zq26, zq27, zq28, zq4, zq3, zq1, zq2, zq0, zq29, zq30, zq14, zq15, zq16, zq17, zq13, zq10, zq12, zq11, zq7, zq5, zq6, zq9, zq8, zq31, zq32, ite_T, ite_F, zq33, zq34, zq35, Nat.reduceEqDiff, len22, len24, fa26_0, fa26_1, fa26_2, len27, fa33_0, fa33_1, len35, fa114_0, fa114_1, fa114_2, fa124_0, fa124_1, len134]
    rw [zyb_ (H.box 4 rfl) rfl, zj_ zhc_ sz33 rfl (H.box 2 rfl)]
    refine put2_c (r := ((l : Int), xs)) H 1 3 (by decide) rfl rfl (by omega) fun w14 ft' X' c' rs' hrs' H => ?_
    simp only [List.set_cons_zero, List.set_cons_succ] at H
    refine zub_ H 4 rfl sz24 rfl rfl rfl fun w15 H => ?_
    simp only [List.set_cons_zero, List.set_cons_succ] at H
    have H := (H.erase 3).erase 2
    simp only [List.eraseIdx_cons_zero, List.eraseIdx_cons_succ] at H
    rw [zt_ (by omega) (by omega), show (m : Int) - 1 = ((m - 1 : Nat) : Int) from by omega]
    have hl' : rs'.length ≤ rs.length + 1 ∧ 0 < rs'.length := by
      rcases hrs' with ⟨e, h0⟩ | e
      · rw [e]
        exact ⟨by omega, h0⟩
      · rw [e, List.length_append, List.length_singleton]
        omega
    have hrg' : ∀ r ∈ rs', r.2.length ≤ 1000 := by
      rcases hrs' with ⟨e, h0⟩ | e
      · rw [e]
        exact hrg
      · rw [e]
        intro r hr
        rcases List.mem_append.1 hr with hr | hr
        · exact hrg r hr
        · rw [List.mem_singleton.1 hr]
          show xs.length ≤ 1000
          omega
    exact hN2 (m - 1) _ _ ⟨by omega, rfl, N2, ft', X', c', rs', by omega, by omega, fun _ => hl'.2, hrg', H⟩ (by omega)
  simp only [show ((0 : Int) < (o : Int)) from by omega, decide_true, zq18, zq19, zq20, zq21, zq22, zq23, zq24, zq25, zq26, zq27, zq28, zq4, zq3, zq1, zq2, zq0, zq29, zq30, zq14, zq15, zq16, zq17, zq13, zq10, zq12, zq11, zq7, zq5, zq6, zq9, zq8, zq31, zq32, ite_T, ite_F, zq33, zq34, zq35, Nat.reduceEqDiff, len22, len24, fa26_0, fa26_1, fa26_2, len27, fa33_0, fa33_1, len35, fa114_0, fa114_1, fa114_2, fa124_0, fa124_1, len134]
  refine zmd_ (fun g w' => g 6 = .int .i64 (o : Int) ∧ g 4 = .int .i64 (m : Int) ∧ ∃ N2 Z d, ∃ xs : List Int, N2 ≤ N' + 4 + (kk - o) * 6 + 6 ∧ xs.length ≤ kk - o + 1 ∧ Apt w0 w' (cur bc (.slice C bs.length cap) N2 :: gth ft X c rs :: bx b3 [.int .i64 (l : Int), .slice Z xs.length d] 33 :: ows Z d xs :: bx b2 [.int .i64 (1 + (a : Int)), .int .i64 (1 + (t : Int)), .slice X rs.length c] 26 :: bx b1 [.int .i64 0, .int .i64 0, .slice none 0 0] 26 :: E)) (fun K1 hK1 => ?_) ?_
  case refine_2 =>
    rintro g w' ⟨g6, g4, N2, Z, d, xs, h1, h2, H⟩
    simp only [g6, zq18, zq19, zq20, zq21, zq22, zq23, zq24, zq25, zq26, zq27, zq28, zq4, zq3, zq1, zq2, zq0, zq29, zq30, zq14, zq15, zq16, zq17, zq13, zq10, zq12, zq11, zq7, zq5, zq6, zq9, zq8, zq31, zq32, ite_T, ite_F, zq33, zq34, zq35, Nat.reduceEqDiff, len22, len24, fa26_0, fa26_1, fa26_2, len27, fa33_0, fa33_1, len35, fa114_0, fa114_1, fa114_2, fa124_0, fa124_1, len134]
    rw [zt_ (by omega) (by omega), show (o : Int) - 1 = ((o - 1 : Nat) : Int) from by omega]
    exact hN4 (o - 1) _ _ ⟨by omega, rfl, g4, N2, Z, d, xs, by omega, by omega, H⟩ (by omega)
  rw [ldB3 (H.box 4 rfl) rfl]
  refine zvc_ H 0 rfl hC (by omega) (by omega) fun w14 x _ hx H => ?_
  simp only [List.set_cons_zero] at H
  refine zmd_ (fun g w' => g 6 = .int .i64 (o : Int) ∧ g 4 = .int .i64 (m : Int) ∧ g 5 = ptrv b3 ∧ (∃ x : Int, g 7 = .int .i64 x) ∧ ∃ N2, N2 ≤ N' + 4 + (kk - o) * 6 + 6 ∧ Apt w0 w' (cur bc (.slice C bs.length cap) N2 :: gth ft X c rs :: bx b3 [.int .i64 (l : Int), .slice Z xs.length d] 33 :: ows Z d xs :: bx b2 [.int .i64 (1 + (a : Int)), .int .i64 (1 + (t : Int)), .slice X rs.length c] 26 :: bx b1 [.int .i64 0, .int .i64 0, .slice none 0 0] 26 :: E)) (fun K2 hK2 => ?_) ?_
  · refine one_c H 0 rfl hC (by omega) (by omega) fun w15 b H => ?_
    simp only [List.set_cons_zero] at H
    cases b
    · simp only [zq18, zq19, zq20, zq21, zq22, zq23, zq24, zq25, zq26, zq27, zq28, zq4, zq3, zq1, zq2, zq0, zq29, zq30, zq14, zq15, zq16, zq17, zq13, zq10, zq12, zq11, zq7, zq5, zq6, zq9, zq8, zq31, zq32, ite_T, ite_F, zq33, zq34, zq35, Nat.reduceEqDiff, len22, len24, fa26_0, fa26_1, fa26_2, len27, fa33_0, fa33_1, len35, fa114_0, fa114_1, fa114_2, fa124_0, fa124_1, len134]
      exact hK2 _ _ ⟨g6, g4, g5, ⟨_, rfl⟩, _, by omega, H⟩
    · simp only [zq18, zq19, zq20, zq21, zq22, zq23, zq24, zq25, zq26, zq27, zq28, zq4, zq3, zq1, zq2, zq0, zq29, zq30, zq14, zq15, zq16, zq17, zq13, zq10, zq12, zq11, zq7, zq5, zq6, zq9, zq8, zq31, zq32, ite_T, ite_F, zq33, zq34, zq35, Nat.reduceEqDiff, len22, len24, fa26_0, fa26_1, fa26_2, len27, fa33_0, fa33_1, len35, fa114_0, fa114_1, fa114_2, fa124_0, fa124_1, len134]
      rw [ldB3 (H.box 4 rfl) rfl]
      refine zvc_ H 0 rfl hC (by omega) (by omega) fun w16 y _ hy H => ?_
      simp only [List.set_cons_zero, zq18, zq19, zq20, zq21, zq22, zq23, zq24, zq25, zq26, zq27, zq28, zq4, zq3, zq1, zq2, zq0, zq29, zq30, zq14, zq15, zq16, zq17, zq13, zq10, zq12, zq11, zq7, zq5, zq6, zq9, zq8, zq31, zq32, ite_T, ite_F, zq33, zq34, zq35, Nat.reduceEqDiff, len22, len24, fa26_0, fa26_1, fa26_2, len27, fa33_0, fa33_1, len35, fa114_0, fa114_1, fa114_2, fa124_0, fa124_1, len134] at H ⊢
      exact hK2 _ _ ⟨g6, g4, g5, ⟨_, rfl⟩, _, by omega, H⟩
  · clear H
    rintro g w15 ⟨g6, g4, g5, ⟨y, g7⟩, N5, hN5, H⟩
    simp only [g5, g7, zq18, zq19, zq20, zq21, zq22, zq23, zq24, zq25, zq26, zq27, zq28, zq4, zq3, zq1, zq2, zq0, zq29, zq30, zq14, zq15, zq16, zq17, zq13, zq10, zq12, zq11, zq7, zq5, zq6, zq9, zq8, zq31, zq32, ite_T, ite_F, zq33, zq34, zq35, Nat.reduceEqDiff, len22, len24, fa26_0, fa26_1, fa26_2, len27, fa33_0, fa33_1, len35, fa114_0, fa114_1, fa114_2, fa124_0, fa124_1, len134]
    rw [zpe_ (H.box 2 rfl) rfl]
    refine pushH H 3 rfl rfl (by omega) fun t1 Z2 d2 w16 H => ?_
    simp only [List.set_cons_zero, List.set_cons_succ, zq18, zq19, zq20, zq21, zq22, zq23, zq24, zq25, zq26, zq27, zq28, zq4, zq3, zq1, zq2, zq0, zq29, zq30, zq14, zq15, zq16, zq17, zq13, zq10, zq12, zq11, zq7, zq5, zq6, zq9, zq8, zq31, zq32, ite_T, ite_F, zq33, zq34, zq35, Nat.reduceEqDiff, len22, len24, fa26_0, fa26_1, fa26_2, len27, fa33_0, fa33_1, len35, fa114_0, fa114_1, fa114_2, fa124_0, fa124_1, len134] at H ⊢
    refine zub_ H 2 rfl sz27 rfl rfl rfl fun w17 H => ?_
    simp only [List.set_cons_zero, List.set_cons_succ, List.take_succ_cons, List.take_zero, List.drop_succ_cons, List.drop_zero, List.nil_append, List.cons_append, List.drop_nil, Value.cells] at H
    exact hK1 _ _ ⟨g6, g4, N5, Z2, d2, xs ++ [y], hN5, by rw [List.length_append, List.length_singleton]; omega, H⟩
end
end Go.Proofs.Ytegcjkhebecgbaa

namespace Go.Sh
open Go
def vls (ls : List (List Value)) (j : Nat) : List Value := ls.getD j []
theorem vls_eq {ls : List (List Value)} {j : Nat} (h : j < ls.length) : vls ls j = ls[j] := by simp [vls, List.getD_eq_getElem?_getD, h]
theorem zcj_ {ls : List (List Value)} {i j : Nat} {l : List Value} (hi : i < ls.length) : vls (ls.set i l) j = if j = i then l else vls ls j := by
  simp only [vls, List.getD_eq_getElem?_getD, List.getElem?_set]
  by_cases hij : i = j
  · subst hij
    simp [hi]
  · rw [if_neg hij, if_neg (fun e => hij e.symm)]
structure OwnV (e1 e2 : Nat) (w : World) (B : Nat) (X : Option Addr) (c : Nat) (ls : List (List Value)) (ps : Nat → Option Addr × Nat) : Prop where
  row : ∃ cells, Row w B e1 1 X ls.length c cells ∧ ∀ j, j < ls.length → cells[j]? = some (.slice (ps j).1 (vls ls j).length (ps j).2)
  own : ∀ j, j < ls.length → Row w B e2 1 (ps j).1 (vls ls j).length (ps j).2 (vls ls j)
  two : ∀ i j, i < ls.length → j < ls.length → i ≠ j → blk (ps i).1 = none ∨ blk (ps i).1 ≠ blk (ps j).1
section
variable {e1 e2 : Nat} {w w' : World} {B B' : Nat} {X : Option Addr} {c : Nat} {ls : List (List Value)} {ps : Nat → Option Addr × Nat}
theorem OwnV.same (h : OwnV e1 e2 w B X c ls ps) (hs : ∀ q, Foot X ps ls.length q → w'.heap[q]? = w.heap[q]?) : OwnV e1 e2 w' B X c ls ps := by
  obtain ⟨⟨cells, hr, hc⟩, ho, ht⟩ := h
  exact ⟨⟨cells, hr.same fun q hq => hs q (.inl hq), hc⟩, fun j hj => Row.same (ho j hj) fun q hq => hs q (.inr ⟨j, hj, hq⟩), ht⟩
theorem OwnV.up (h : OwnV e1 e2 w B X c ls ps) (hs : ∀ q, Foot X ps ls.length q → B' ≤ q) : OwnV e1 e2 w B' X c ls ps := by
  obtain ⟨⟨cells, hr, hc⟩, ho, ht⟩ := h
  exact ⟨⟨cells, hr.up fun q hq => hs q (.inl hq), hc⟩, fun j hj => Row.up (ho j hj) fun q hq => hs q (.inr ⟨j, hj, hq⟩), ht⟩
theorem OwnV.mono (h : OwnV e1 e2 w B X c ls ps) (hb : B' ≤ B) : OwnV e1 e2 w B' X c ls ps := by
  obtain ⟨⟨cells, hr, hc⟩, ho, ht⟩ := h
  exact ⟨⟨cells, Row.mono hr hb, hc⟩, fun j hj => Row.mono (ho j hj) hb, ht⟩
theorem OwnV.foot (h : OwnV e1 e2 w B X c ls ps) {q : Nat} (hq : Foot X ps ls.length q) : B ≤ q ∧ q < w.heap.size := by
  obtain ⟨⟨cells, hr, hc⟩, ho, ht⟩ := h
  rcases hq with hq | ⟨l, hl, hq⟩
  · exact hr.ge hq
  · exact Row.ge (ho l hl) hq
theorem OwnV.ptr (h : OwnV e1 e2 w B X c ls ps) (hl : 0 < ls.length) : X = some (ad X) := by
  obtain ⟨⟨cells, hr, hc⟩, _⟩ := h
  exact hr.ptr hl
theorem OwnV.cell (h : OwnV e1 e2 w B X c ls ps) {j : Nat} (hj : j < ls.length) : w.cell? ((ad X).add j) = some (.slice (ps j).1 (vls ls j).length (ps j).2) := by
  obtain ⟨⟨cells, hr, hc⟩, _⟩ := h
  exact hr.src.cell _ _ (hc j hj)
theorem OwnV.put {i m : Nat} {v : Value} (h : OwnV e1 e2 w B X c ls ps) (he : e1 ≠ e2) (hi : i < ls.length) (hr : Row w' B e2 1 (ps i).1 (vls ls i).length (ps i).2 ((vls ls i).set m v)) (g : w.grownBy w' (blk (ps i).1)) : OwnV e1 e2 w' B X c (ls.set i ((vls ls i).set m v)) ps := by
  obtain ⟨⟨cells, hr0, hc⟩, ho, ht⟩ := h
  refine ⟨⟨cells, by rw [List.length_set]; exact Row.kept hr0 g (zue_ hr0 (ho i hi) he), fun j hj => ?_⟩, fun j hj => ?_, fun a b ha hb hab => ?_⟩
  · rw [List.length_set] at hj
    rw [hc j hj, zcj_ hi]
    by_cases hij : j = i
    · subst hij
      rw [if_pos rfl, List.length_set]
    · rw [if_neg hij]
  · rw [List.length_set] at hj
    rw [zcj_ hi]
    by_cases hij : j = i
    · subst hij
      rw [if_pos rfl, List.length_set]
      exact hr
    · rw [if_neg hij]
      exact Row.kept (ho j hj) g (ht j i hj hi hij)
  · rw [List.length_set] at ha hb
    exact ht a b ha hb hab
theorem OwnV.setRow {i d B2 : Nat} {Y : Option Addr} {l cells : List Value} (h : OwnV e1 e2 w B X c ls ps) (he : e1 ≠ e2) (hi : i < ls.length) (ho : Row w B2 e2 1 Y l.length d l) (hne : ∀ j, j < ls.length → blk (ps j).1 = none ∨ blk (ps j).1 ≠ blk Y)
    (hr0 : Row w B e1 1 X ls.length c cells) (hc : ∀ j, j < ls.length → cells[j]? = some (.slice (ps j).1 (vls ls j).length (ps j).2)) (hr : Row w' B e1 1 X ls.length c (cells.set i (.slice Y l.length d))) (g : w.grownBy w' (blk X)) : OwnV e1 e2 w' 0 X c (ls.set i l) (fun j => if j = i then (Y, d) else ps j) := by
  have hlen := hr0.len
  refine ⟨⟨_, by rw [List.length_set]; exact Row.mono hr (Nat.zero_le _), fun j hj => ?_⟩, fun j hj => ?_, fun a b ha hb hab => ?_⟩
  · rw [List.length_set] at hj
    rw [zcj_ hi]
    by_cases hij : j = i
    · subst hij
      simp only [if_true]
      rw [List.getElem?_set_self (by omega)]
    · simp only [hij, if_false]
      rw [List.getElem?_set_ne (fun e => hij e.symm)]
      exact hc j hj
  · rw [List.length_set] at hj
    rw [zcj_ hi]
    by_cases hij : j = i
    · subst hij
      simp only [if_true]
      exact Row.mono (Row.kept ho g (zue_ ho hr0 fun e => he e.symm)) (Nat.zero_le _)
    · simp only [hij, if_false]
      exact Row.mono (Row.kept (h.own j hj) g (zue_ (h.own j hj) hr0 fun e => he e.symm)) (Nat.zero_le _)
  · rw [List.length_set] at ha hb
    by_cases hai : a = i <;> by_cases hbi : b = i
    · omega
    · simp only [hai, hbi, if_true, if_false]
      exact blk_sym (hne b hb)
    · simp only [hai, hbi, if_true, if_false]
      exact hne a ha
    · simp only [hai, hbi, if_false]
      exact h.two a b ha hb hab
end
def vvi (e1 e2 : Nat) (X : Option Addr) (c : Nat) (ls : List (List Value)) (ps : Nat → Option Addr × Nat) : Thing := ⟨fun w => OwnV e1 e2 w 0 X c ls ps, Foot X ps ls.length⟩
theorem zfk_ {w : World} {B e1 e2 c : Nat} {X : Option Addr} {ls : List (List Value)} {ps : Nat → Option Addr × Nat} (h : OwnV e1 e2 w B X c ls ps) : ∀ w', (∀ q, (vvi e1 e2 X c ls ps).ft q → w'.heap[q]? = w.heap[q]?) → (vvi e1 e2 X c ls ps).P w' := fun w' hq => (h.mono (Nat.zero_le B)).same hq
theorem Apt.vv {w0 w : World} {L : List Thing} (H : Apt w0 w L) (i : Nat) {e1 e2 c : Nat} {X : Option Addr} {ls : List (List Value)} {ps : Nat → Option Addr × Nat} (hi : L[i]? = some (vvi e1 e2 X c ls ps)) : OwnV e1 e2 w w0.heap.size X c ls ps := OwnV.up (H.get i hi) (H.ok i _ hi).lo
theorem Apt.nilVV {w0 w : World} {L : List Thing} (H : Apt w0 w L) (i : Nat) {e1 c n : Nat} (e2 : Nat) {X : Option Addr} (hi : L[i]? = some (rwi e1 1 X n c (List.replicate n (.slice none 0 0)))) : Apt w0 w (L.set i (vvi e1 e2 X c (List.replicate n []) fun _ => (none, 0))) := by
  have hr := H.row i hi
  have hv : ∀ j, vls (List.replicate n []) j = [] := fun j => by
    simp only [vls, List.getD_eq_getElem?_getD, List.getElem?_replicate]
    split <;> rfl
  have o : OwnV e1 e2 w w0.heap.size X c (List.replicate n []) fun _ => (none, 0) := by
    refine ⟨⟨_, by rw [List.length_replicate]; exact hr, fun j hj => ?_⟩, fun j hj => ?_, fun i j hi hj hij => .inl rfl⟩
    · rw [List.length_replicate] at hj
      rw [hv]
      simp [hj]
    · rw [hv]
      exact Row.nil _ _ _ _
  refine H.set hi (Gx.refl _ w) (fun q hq => ?_) (fun q hq => (o.foot hq).2) (zfk_ o)
  rcases hq with hq | ⟨l, hl, hq⟩
  · exact .inl hq
  · cases hq
section
variable {P : Program} {k : Value → World → Prop} {w0 w : World} {L : List Thing}
theorem storeVV (H : Apt w0 w L) (i j : Nat) {t e1 e2 m c : Nat} {X : Option Addr} {ls : List (List Value)} {ps : Nat → Option Addr × Nat} {v : Value} (hi : L[i]? = some (vvi e1 e2 X c ls ps)) (he : e1 ≠ e2) (hs : szOf P t 1) (hv : v.cells.toList = [v]) (h1 : v.oneCell' = true) (hj : j < ls.length) (hm : m < (vls ls j).length)
    (h : ∀ w', Apt w0 w' (L.set i (vvi e1 e2 X c (ls.set j ((vls ls j).set m v)) ps)) → k undef w') : Do P (zi_ t (.pointer (some ((ad (ps j).1).add m))) v) k w := by
  have o := H.vv i hi
  refine zuc_ hs hv h1 (o.own j hj) (by omega) fun w' g hsz hr => ?_
  have o' := o.put he hj hr g
  refine h w' (H.set hi (gx_of g fun q hq => .inr ⟨j, hj, hq⟩) (fun q hq => .inl ?_) (fun q hq => (o'.foot hq).2) (zfk_ o'))
  rcases hq with hq | ⟨l, hl, hq⟩
  · exact .inl hq
  · rw [List.length_set] at hl
    exact .inr ⟨l, hl, hq⟩
theorem setRowVV (H : Apt w0 w L) (i j x : Nat) (hij : i ≠ j) {t e1 e2 c d n : Nat} {X Y : Option Addr} {ls : List (List Value)} {l : List Value} {ps : Nat → Option Addr × Nat} (hi : L[i]? = some (vvi e1 e2 X c ls ps)) (hj : L[j]? = some (rwi e2 1 Y n d l)) (hn : n = l.length) (he : e1 ≠ e2) (hs : szOf P t 1) (hx : x < ls.length)
    (h : ∀ w' ps', Apt w0 w' ((L.set i (vvi e1 e2 X c (ls.set x l) ps')).set j emp) → k undef w') : Do P (zi_ t (.pointer (some ((ad X).add x))) (.slice Y n d)) k w := by
  subst hn
  have o := H.vv i hi
  obtain ⟨⟨cells, hr0, hc⟩, _⟩ := id o
  refine zuc_ hs rfl rfl hr0 (by omega) fun w' g hsz hr => ?_
  have o' := o.setRow he hx (H.row j hj) (fun m hm => by
    cases hq : blk (ps m).1 with
    | none => exact .inl rfl
    | some q => exact .inr fun e => H.two i j _ _ hij hi hj q (.inr ⟨m, hm, hq⟩) (show blk Y = some q from e.symm)) hr0 hc hr g
  refine h w' _ (H.join hij hi hj (gx_of g fun q hq => .inl (.inl hq)) (fun q hq => ?_) (fun q hq => (o'.foot hq).2) (zfk_ o'))
  rcases hq with hq | ⟨m, hm, hq⟩
  · exact .inl (.inl hq)
  · rw [List.length_set] at hm
    by_cases e : m = x
    · simp only [e, if_true] at hq
      exact .inr (.inl hq)
    · simp only [e, if_false] at hq
      exact .inl (.inr ⟨m, hm, hq⟩)
end
end Go.Sh
