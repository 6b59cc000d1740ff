/- Texts of this repository put together: ShE4, ShE5, Sh1z, ShM1, ShM2, ShM3, ShM4, ShM5, ShN1, Bh, ShM6, ShM7, ShN2, Bo, ShO2, Bp, ShY3, ShY4, Bk, ShX4, ShX6, ShX7, ShX8, ShX9, ShY5, ShW0, ShW2, ShY6, ShX3, ShX5, ShXA, ShXB, ShG8, ShH8, ShLK, ShY7, ShY8, ShY9, ShO1, ShYA, ShYB, ShM8, ShM9, ShN3, ShO4, ShO5, ShYC, ShYD, Cc. -/
import Derived.Test.YtegcjkhebecgbaaKLongEnoughd
import Derived.Test.YtegcjkhebecgbaaKLongEnoughb
import Derived.Test.YtegcjkhebecgbaaKLongEnoughc
import Derived.Test.YtegcjkhebecgbaaProg
import Derived.Test.YtegcjkhebecgbaaKLongEnougha
import Derived.Shelf.Spec.SlicesInsert
import Derived.Shelf.Spec.SlicesInsertGrow
import Derived.Shelf.Slices.Delete
import Derived.WideKeyArr
import Derived.WideMake
import Derived.Shelf.SlSortCmp.Whole1

/- Contracts: DrawDerives, DrawShortWords, DrawInLanguage, DrawSpansOf, DrawSequenceDerives. -/
set_option linter.unusedVariables false
set_option linter.unusedSimpArgs false
set_option maxRecDepth 100000
namespace Go.Proofs.Ytegcjkhebecgbaa
open Go Go.Sh Go.RowKit
theorem inf114' : Inf Try.prog 114 (.agg #[.slice none 0 0, .int .i64 0, .int .u64 0]) 3 40 := inf_of (by kernel_rfl)
theorem bd114 {S : WS} {k : Value → Prop} {ps : List (Nat × Value)} {cells : Array Value} (hf : Instr.fill (#[(0, 1), (1, 1), (2, 1)][·]?) #[.slice none 0 0, .int .i64 0, .int .u64 0] ps = some cells) : Rd Try.prog S (sBuild 114 ps) k = k (.agg cells) :=
  rd_build3 Try.underlying114 inf114' sz22 sz3 sz112 hf
abbrev zg : List Value := [.int .i64 0, .int .i64 0, .slice none 0 0]
section
variable {w0 w : World} {E : List Thing} {C : Option Addr} {cap : Nat} {bs : List Int} {k : Value → World → Prop}
/-- A draw begins: a place for the grammar, a cursor. -/
theorem draw0 {K : Value → Value → Value → World → Prop} (h : ∀ b1 b4 w', Apt w w' [cur b4 (.slice C bs.length cap) 0, bx b1 zg 26] → K (ptrv b1) (.agg #[.slice C bs.length cap, .int .i64 0, .int .u64 0]) (ptrv b4) w') :
    Do Try.prog (sAlloc 26) (fun t1 w2 => Rd Try.prog (WS.at w2) (sBuild 114 [(0, .slice C bs.length cap)]) fun t3 => Do Try.prog (sBox 114 t3) (fun t4 w5 => K t1 t3 t4 w5) w2) w := by
  have H := Apt.nil w
  refine allocH H inf26 fun b1 w1 H => ?_
  refine rdi (bd114 (cells := #[.slice C bs.length cap, .int .i64 0, .int .u64 0]) rfl) ?_
  refine boxH H fun b4 w2 H => ?_
  simp only [List.nil_append, List.cons_append] at H
  have H := H.shutCur (N := 0) (tc := TC) (bc := b4) (cv := .slice C bs.length cap) (a := 0) (s := 0) 1 rfl (by omega) (by omega)
  simp only [List.set_cons_succ, List.set_cons_zero] at H
  exact h b1 b4 w2 (H.perm (List.Perm.swap _ _ _))
theorem rdS26 {S : WS} {k : Value → Prop} {b e : Nat} {cs : List Value} (hl : cs.length = 3) (h : ∀ w', S.S w' → Box w' b cs e) : Rd Try.prog S (sLoad 26 (ptrv b)) k = k (.agg cs.toArray) := by
  refine rd_loadAgg agg26 sz26 (cs := cs) hl fun w' hw j hj => ?_
  rw [show (⟨b, 0, none⟩ : Addr).add j = ⟨b, 0 + j, none⟩ from zq34 b 0 j, Nat.zero_add, (h w' hw).cell j]
  exact List.getElem?_eq_getElem hj
theorem gowK {ft : Nat → Prop} {Y : Option Addr} {cy : Nat} {rs : List RuleL} (h : OwnG 33 ft w 0 Y cy rs) : kG Y cy rs w := by
  have h1 := h.read
  obtain ⟨cells, hr, _⟩ := h
  exact ⟨hr.cap.1, h1⟩
set_option maxHeartbeats 1600000 in
theorem drawInLanguage_c (hC : Byts w C bs) (hk : ∀ w' gm ft Y cy X cx ws, Drawn 101 gm → Apt w w' [ows X cx ws, gth ft Y cy gm.rules] → k (.tuple #[grv gm Y cy, .slice X (List.length ws) cx]) w') :
    CallK Try.prog 43 [.slice C bs.length cap] k w := by
  refine enter43 ?_
  unfold S43
  refine draw0 fun b1 b4 w1 H => ?_
  refine any_c H hC (by omega) fun w2 gm ft Y cy hd H => ?_
  refine allocH H inf26 fun b8 w3 H => ?_
  refine storeH H 3 rfl sz26 rfl rfl rfl fun w4 H => ?_
  simp only [List.cons_append, List.nil_append, List.set_cons_zero, List.set_cons_succ] at H
  have H := H.drew
  refine ⟨fun w' => Box w' b8 [.int .i64 gm.nons, .int .i64 gm.toks, .slice Y gm.rules.length cy] 26, H.box 3 rfl, ?_⟩
  refine rdi (rdS26 rfl fun w' h => h) (rdi (rdS26 rfl fun w' h => h) ?_)
  have hG := gowK (H.gow 1 rfl)
  refine wordIn_c H hC (by omega) hG.1 hG.2 hd.toks fun w7 Z d ws _ H => ?_
  refine ⟨H.box 4 rfl, ?_⟩
  refine storeH H 3 rfl sz26 rfl rfl rfl fun w8 H => ?_
  simp only [List.cons_append, List.nil_append, List.set_cons_zero, List.set_cons_succ] at H
  rw [rd_loadVar, ldB_agg agg26 sz26 rfl (H.box 3 rfl)]
  have H := ((H.erase 0).erase 3).erase 2
  simp only [List.eraseIdx_cons_zero, List.eraseIdx_cons_succ] at H
  exact hk w8 gm ft Y cy Z d ws hd H
end
end Go.Proofs.Ytegcjkhebecgbaa

/- What the drawn laws do: comparisons of yes and no, boxes of rules, bytes that are known. -/
set_option linter.unusedVariables false
set_option linter.unusedSimpArgs false
set_option maxRecDepth 100000
namespace Go.Proofs.Ytegcjkhebecgbaa
open Go Go.Sh Go.RowKit
abbrev kC (C : Option Addr) (bs : List Int) : World → Prop := fun w => Byts w C bs
section
variable {S : WS} {k : Value → Prop}
theorem bneq {c x y : Bool} : Rd Try.prog S (sBin .neq 4 c (.bool x) (.bool y)) k = k (.bool (!(x == y))) := bin_neq_bool Try.underlying4
theorem beql {c x y : Bool} : Rd Try.prog S (sBin .eql 4 c (.bool x) (.bool y)) k = k (.bool (x == y)) := bin_eql_bool Try.underlying4
end
section
variable {w w' : World} {L : List (World → Prop)}
theorem knC (H : Kn w L) {C : Option Addr} {bs : List Int} (h : Byts w C bs) : Kn w (L ++ [kC C bs]) := H.add fun w' g => h.gr g
/-- A drawn grammar is known from now on. -/
theorem knG (H : Kn w L) {ft : Nat → Prop} {Y : Option Addr} {cy : Nat} {rs : List RuleL} {w0 : World} {M : List Thing} (A : Apt w0 w M) (i : Nat) (hi : M[i]? = some (gth ft Y cy rs)) : Kn w (L ++ [kG Y cy rs]) :=
  H.addG (gowK (A.gow i hi)).1 (gowK (A.gow i hi)).2
theorem knI (H : Kn w L) {X : Option Addr} {cx : Nat} {xs : List Int} {w0 : World} {M : List Thing} (A : Apt w0 w M) (i : Nat) (hi : M[i]? = some (ows X cx xs)) : Kn w (L ++ [kI X xs cx]) :=
  H.addI (A.ints i hi) (A.row i hi).cap.1
/-- A grammar is put into a place of its own. -/
theorem newG {k : Value → World → Prop} (H : Kn w L) {gm : Gram} {Y : Option Addr} {cy : Nat} (h : ∀ b w', Kn w' (L ++ [kB b [.int .i64 gm.nons, .int .i64 gm.toks, .slice Y gm.rules.length cy] 26]) → k (ptrv b) w') :
    Do Try.prog (sAlloc 26) (fun p w1 => Do Try.prog (sStore 26 p (grv gm Y cy)) (fun _ w2 => k p w2) w1) w :=
  do_new (cs := [.int .i64 gm.nons, .int .i64 gm.toks, .slice Y gm.rules.length cy]) H inf26 sz26 rfl rfl rfl rfl h
end
end Go.Proofs.Ytegcjkhebecgbaa

/- Head only: steps at the head of a body that is still to be walked. -/
set_option linter.unusedVariables false
namespace Go.Proofs.Ytegcjkhebecgbaa
open Go Go.Sh Go.RowKit
section
variable {S : WS} {k : Value → Prop} {c b : Bool} {x : Int} {kd : IntKind} {t : TypeId}
theorem neq_self : Rd Try.prog S (sBin .neq t c (.int kd x) (.int kd x)) k = k (.bool false) := by rw [zq22, decide_eq_true rfl]; rfl
theorem eql_self : Rd Try.prog S (sBin .eql t c (.int kd x) (.int kd x)) k = k (.bool true) := by rw [zq21, decide_eq_true rfl]
theorem neqb_self : Rd Try.prog S (sBin .neq 4 c (.bool b) (.bool b)) k = k (.bool false) := by rw [bneq]; cases b <;> rfl
theorem eqlb_self : Rd Try.prog S (sBin .eql 4 c (.bool b) (.bool b)) k = k (.bool true) := by rw [beql]; cases b <;> rfl
end
end Go.Proofs.Ytegcjkhebecgbaa

/- Least costs: tables, rows, passes; they end, and costs stay small. -/
set_option linter.unusedVariables false
set_option linter.unusedSimpArgs false
set_option maxRecDepth 100000
namespace Go.Sh
/-! A table of costs: nonterminal, from, to. -/
abbrev CT := Nat → Nat → Nat → Option Nat
def CT.put (T : CT) (A i j n : Nat) : CT := fun A' i' j' => if A' = A ∧ i' = i ∧ j' = j then some n else T A' i' j'
/-- Whether a cost is better than an old one. -/
def better (n : Nat) : Option Nat → Bool
  | none => true
  | some o => decide (n < o)
/-! Passes. -/
abbrev GS := CT × Bool
/-- What a rule offers between two places. -/
abbrev CandG := CT → Nat → Nat → Nat → Option Nat
def stepG (c : CandG) (rs : List RuleL) (q i : Nat) (s : GS) (j : Nat) : GS :=
  match c s.1 q i j with
  | none => s
  | some n => if better n (s.1 (rul rs q).1.toNat i j) then (s.1.put (rul rs q).1.toNat i j n, true) else s
def rowG (c : CandG) (rs : List RuleL) (n q : Nat) (s : GS) (i : Nat) : GS := (List.range' i (n - i)).foldl (stepG c rs q i) s
def ruleG (c : CandG) (rs : List RuleL) (n : Nat) (s : GS) (q : Nat) : GS := (List.range n).foldl (rowG c rs n q) s
def passG (c : CandG) (rs : List RuleL) (n : Nat) (s : GS) : GS := (List.range rs.length).foldl (ruleG c rs n) s
/-- Passes until nothing changes. -/
inductive FixG (c : CandG) (rs : List RuleL) (n : Nat) : CT → CT → Prop
  | done {T : CT} : (passG c rs n (T, false)).2 = false → FixG c rs n T (passG c rs n (T, false)).1
  | more {T U : CT} : (passG c rs n (T, false)).2 = true → FixG c rs n (passG c rs n (T, false)).1 U → FixG c rs n T U
theorem FixG.det {c : CandG} {rs : List RuleL} {n : Nat} {T U V : CT} (h : FixG c rs n T U) (g : FixG c rs n T V) : U = V := by
  induction h with
  | done h1 =>
    cases g with
    | done g1 => rfl
    | more g1 g2 => rw [h1] at g1; cases g1
  | more h1 h2 ih =>
    cases g with
    | done g1 => rw [h1] at g1; cases g1
    | more g1 g2 => exact ih g2
/-! Costs stay small. -/
def eB : Nat → Nat
  | 0 => 1
  | s + 1 => 100 + 4 * eB s
def gB (l s : Nat) : Nat := if l = 0 then eB s else 6749808 * (l - 1) + 562484 * s + l
def cntG (T : CT) (i j : Nat) : Nat := sumN (fun A => if (T A i j).isSome then 1 else 0) 6
theorem sumN_le {f g : Nat → Nat} : ∀ {n : Nat}, (∀ k, k < n → f k ≤ g k) → sumN f n ≤ sumN g n := by
  intro n
  induction n with
  | zero => intro _; exact Nat.le_refl _
  | succ n ih =>
    intro h
    have := ih fun k hk => h k (by omega)
    have := h n (by omega)
    rw [sumN, sumN]
    omega
theorem sumN_one {f g : Nat → Nat} {p d : Nat} : ∀ {n : Nat}, p < n → (∀ k, k < n → k ≠ p → f k = g k) → f p + d = g p → sumN f n + d = sumN g n := by
  intro n
  induction n with
  | zero => intro h; omega
  | succ n ih =>
    intro h h1 h2
    rw [sumN, sumN]
    by_cases hp : p = n
    · subst hp
      rw [sumN_congr fun k hk => h1 k (by omega) (by omega)]
      omega
    · have := ih (by omega) (fun k hk => h1 k (by omega)) h2
      have := h1 n (by omega) (by omega)
      omega
theorem cntG_le (T : CT) (i j : Nat) : cntG T i j ≤ 6 := by
  have := sumN_le (f := fun A => if (T A i j).isSome then 1 else 0) (g := fun _ => 1) (n := 6) (fun k _ => by split <;> omega)
  exact this
theorem eB_mono : ∀ {s t : Nat}, s ≤ t → eB s ≤ eB t := by
  intro s t h
  induction h with
  | refl => exact Nat.le_refl _
  | step _ ih => rw [eB]; omega
theorem eB6 : eB 6 = 140596 := by decide
theorem gB_mono {l s t : Nat} (h : s ≤ t) : gB l s ≤ gB l t := by
  unfold gB
  split
  · exact eB_mono h
  · omega
theorem gB_zero (s : Nat) : gB 0 s = eB s := if_pos rfl
theorem gB_pos {l s : Nat} (h : 0 < l) : gB l s = 6749808 * (l - 1) + 562484 * s + l := if_neg (by omega)
/-- Entries are small, the smaller the fewer there are. -/
def SmallG (T : CT) : Prop := ∀ A i j n, i ≤ j → T A i j = some n → n ≤ gB (j - i) (cntG T i j)
theorem SmallG.six {T : CT} (h : SmallG T) {A i j n : Nat} (hij : i ≤ j) (hT : T A i j = some n) : n ≤ gB (j - i) 6 := Nat.le_trans (h A i j n hij hT) (gB_mono (cntG_le T i j))
section
variable {tok : Int → Nat → Nat → Option Nat} {nl : Nat → Nat → Option Nat} {T : CT}
end
theorem SmallG.le {T : CT} (h : SmallG T) {A i j n : Nat} (hij : i ≤ j) (hj : j ≤ 10) (hT : T A i j = some n) : n ≤ 100000000 := by
  have := h.six hij hT
  by_cases e : i = j
  · subst e
    rw [Nat.sub_self, gB_zero, eB6] at this
    omega
  · rw [gB_pos (by omega)] at this
    omega
theorem cntG_put {T : CT} {A i j n : Nat} (hA : A < 6) : cntG (T.put A i j n) i j + (if (T A i j).isSome then 1 else 0) = cntG T i j + 1 := by
  unfold cntG
  by_cases h : (T A i j).isSome
  · rw [if_pos h]
    congr 1
    refine sumN_congr fun k hk => ?_
    unfold CT.put
    by_cases e : k = A
    · subst e
      simp [h]
    · simp [e]
  · rw [if_neg h]
    symm
    refine sumN_one (p := A) hA (fun k hk hne => ?_) ?_
    · simp [CT.put, hne]
    · simp [CT.put, h]
theorem cntG_other {T : CT} {A i j n i' j' : Nat} (h : ¬ (i' = i ∧ j' = j)) : cntG (T.put A i j n) i' j' = cntG T i' j' := by
  unfold cntG
  refine sumN_congr fun k hk => ?_
  have : T.put A i j n k i' j' = T k i' j' := if_neg fun e => h e.2
  rw [this]
theorem smallG_put {T : CT} (h : SmallG T) {A i j n : Nat} (hA : A < 6) (hn : n ≤ gB (j - i) (cntG T i j + 1)) (hb : better n (T A i j) = true) : SmallG (T.put A i j n) := by
  intro A' i' j' m hij hm
  by_cases e : i' = i ∧ j' = j
  · obtain ⟨rfl, rfl⟩ := e
    have hc := cntG_put (T := T) (i := i') (j := j') (n := n) hA
    have hmono : gB (j' - i') (cntG T i' j') ≤ gB (j' - i') (cntG (T.put A i' j' n) i' j') := gB_mono (by split at hc <;> omega)
    unfold CT.put at hm
    by_cases e2 : A' = A
    · subst e2
      rw [if_pos ⟨rfl, rfl, rfl⟩] at hm
      cases hm
      cases ho : T A' i' j' with
      | none =>
        rw [ho] at hc
        rw [if_neg (by simp)] at hc
        rwa [show cntG (T.put A' i' j' n) i' j' = cntG T i' j' + 1 from by omega]
      | some o =>
        rw [ho] at hb
        have := h _ _ _ _ hij ho
        unfold better at hb
        have := of_decide_eq_true hb
        omega
    · rw [if_neg fun e => e2 e.1] at hm
      have := h _ _ _ _ hij hm
      omega
  · rw [cntG_other e]
    unfold CT.put at hm
    rw [if_neg fun e' => e e'.2] at hm
    exact h _ _ _ _ hij hm
/-! Passes end. -/
def cellG (T : CT) (p : Nat) : Nat := match T (p / 121) (p / 11 % 11) (p % 11) with | none => 100000001 | some n => n
def sumG (T : CT) : Nat := sumN (cellG T) 726
theorem cellG_at {T : CT} {A i j : Nat} (hi : i < 11) (hj : j < 11) : cellG T (A * 121 + i * 11 + j) = match T A i j with | none => 100000001 | some n => n := by
  unfold cellG
  rw [show (A * 121 + i * 11 + j) / 121 = A from by omega, show (A * 121 + i * 11 + j) / 11 % 11 = i from by omega, show (A * 121 + i * 11 + j) % 11 = j from by omega]
theorem sumG_put {T : CT} {A i j n : Nat} (hA : A < 6) (hi : i < 11) (hj : j < 11) (hn : n ≤ 100000000) (hb : better n (T A i j) = true) : sumG (T.put A i j n) < sumG T := by
  unfold sumG
  have h1 : cellG (T.put A i j n) (A * 121 + i * 11 + j) = n := by
    rw [cellG_at hi hj]
    simp [CT.put]
  have h2 : n < cellG T (A * 121 + i * 11 + j) := by
    rw [cellG_at hi hj]
    cases ho : T A i j with
    | none => show n < 100000001; omega
    | some o =>
      rw [ho] at hb
      exact of_decide_eq_true hb
  have := sumN_one (f := cellG (T.put A i j n)) (g := cellG T) (p := A * 121 + i * 11 + j) (d := cellG T (A * 121 + i * 11 + j) - n) (n := 726) (by omega) (fun k hk hne => by
    unfold cellG CT.put
    rw [if_neg (by omega)]) (by omega)
  omega
/-- A step changes nothing, or says so and lessens. -/
def DropG (s s' : GS) : Prop := s' = s ∨ (s'.2 = true ∧ sumG s'.1 < sumG s.1)
theorem DropG.trans {a b c : GS} (h : DropG a b) (g : DropG b c) : DropG a c := by
  rcases h with rfl | ⟨h1, h2⟩
  · exact g
  · rcases g with rfl | ⟨g1, g2⟩
    · exact .inr ⟨h1, h2⟩
    · exact .inr ⟨g1, by omega⟩
theorem DropG.fold {α : Type} {I : CT → Prop} {f : GS → α → GS} : ∀ {l : List α} {s : GS}, (∀ a ∈ l, ∀ s, I s.1 → I (f s a).1 ∧ DropG s (f s a)) → I s.1 → I (l.foldl f s).1 ∧ DropG s (l.foldl f s) := by
  intro l
  induction l with
  | nil => intro s _ h; exact ⟨h, .inl rfl⟩
  | cons a l ih =>
    intro s hs h
    obtain ⟨h1, h2⟩ := hs a (List.mem_cons_self ..) s h
    obtain ⟨h3, h4⟩ := ih (fun b hb => hs b (List.mem_cons_of_mem _ hb)) h1
    exact ⟨h3, h2.trans h4⟩
/-- What a rule offers is small. -/
def OfferG (c : CandG) (rs : List RuleL) (n : Nat) : Prop := (∀ q, q < rs.length → (rul rs q).1.toNat < 6) ∧ n ≤ 11 ∧ ∀ T q i j m, SmallG T → q < rs.length → i ≤ j → j < n → c T q i j = some m → m ≤ gB (j - i) (cntG T i j + 1)
section
variable {c : CandG} {rs : List RuleL} {n : Nat}
theorem stepG_drop (hc : OfferG c rs n) {q i j : Nat} (hq : q < rs.length) (hij : i ≤ j) (hj : j < n) {s : GS} (hs : SmallG s.1) : SmallG (stepG c rs q i s j).1 ∧ DropG s (stepG c rs q i s j) := by
  unfold stepG
  split
  · exact ⟨hs, .inl rfl⟩
  · rename_i m hm
    split
    · rename_i hb
      have h1 := smallG_put hs (hc.1 q hq) (hc.2.2 _ _ _ _ _ hs hq hij hj hm) hb
      refine ⟨h1, .inr ⟨rfl, sumG_put (hc.1 q hq) (by have := hc.2.1; omega) (by have := hc.2.1; omega) ?_ hb⟩⟩
      exact h1.le (A := (rul rs q).1.toNat) hij (by have := hc.2.1; omega) (by simp [CT.put])
    · exact ⟨hs, .inl rfl⟩
theorem rowG_drop (hc : OfferG c rs n) {q : Nat} (hq : q < rs.length) {s : GS} (hs : SmallG s.1) (i : Nat) : SmallG (rowG c rs n q s i).1 ∧ DropG s (rowG c rs n q s i) :=
  DropG.fold (I := SmallG) (fun j hj s hs => by
    rw [List.mem_range'_1] at hj
    exact stepG_drop hc hq hj.1 (by omega) hs) hs
theorem ruleG_drop (hc : OfferG c rs n) {q : Nat} (hq : q < rs.length) {s : GS} (hs : SmallG s.1) : SmallG (ruleG c rs n s q).1 ∧ DropG s (ruleG c rs n s q) :=
  DropG.fold (I := SmallG) (fun i hi s hs => rowG_drop hc hq hs i) hs
theorem passG_drop (hc : OfferG c rs n) {s : GS} (hs : SmallG s.1) : SmallG (passG c rs n s).1 ∧ DropG s (passG c rs n s) :=
  DropG.fold (I := SmallG) (fun q hq s hs => ruleG_drop hc (List.mem_range.1 hq) hs) hs
theorem FixG.small (hc : OfferG c rs n) {T U : CT} (h : FixG c rs n T U) (hT : SmallG T) : SmallG U := by
  induction h with
  | done h1 => exact (passG_drop hc (s := (_, false)) hT).1
  | more h1 h2 ih => exact ih (passG_drop hc (s := (_, false)) hT).1
/-- At the end nothing better is offered. -/
theorem DropG.still {α : Type} {I : CT → Prop} {f : GS → α → GS} : ∀ {l : List α} {s : GS}, (∀ a ∈ l, ∀ s, I s.1 → I (f s a).1 ∧ DropG s (f s a)) → I s.1 → s.2 = false → (l.foldl f s).2 = false → ∀ a ∈ l, f s a = s := by
  intro l
  induction l with
  | nil => intro s _ _ _ _ a ha; simp at ha
  | cons b l ih =>
    intro s hs h0 h he a ha
    rw [List.foldl_cons] at he
    have hb : f s b = s := by
      rcases (hs b (List.mem_cons_self ..) s h0).2 with e | ⟨e, _⟩
      · exact e
      · exfalso
        rcases (DropG.fold (fun c hc => hs c (List.mem_cons_of_mem _ hc)) (hs b (List.mem_cons_self ..) s h0).1).2 with e' | ⟨e', _⟩
        · rw [e', e] at he
          cases he
        · rw [e'] at he
          cases he
    rcases List.mem_cons.1 ha with rfl | ha
    · exact hb
    · rw [hb] at he
      exact ih (fun c hc => hs c (List.mem_cons_of_mem _ hc)) h0 h he a ha
theorem FixG.closed (hc : OfferG c rs n) {T U : CT} (h : FixG c rs n T U) (hT : SmallG T) : (passG c rs n (U, false)).2 = false := by
  induction h with
  | done h1 =>
    rename_i T
    have h2 : (passG c rs n (T, false)).1 = T := by
      rcases (passG_drop hc (s := (T, false)) hT).2 with e | ⟨e, _⟩
      · rw [e]
      · rw [e] at h1
        cases h1
    rw [h2]
    exact h1
  | more h1 h2 ih => exact ih (passG_drop hc (s := (_, false)) hT).1
end
end Go.Sh

/- Mending: the table of the reference, where the rest may be left out behind any symbols, and the program's, where it may not, are the same in the end. -/
set_option linter.unusedVariables false
set_option linter.unusedSimpArgs false
set_option maxRecDepth 100000
namespace Go.Sh
open Go
end Go.Sh

/- Least costs of trees: what rows cost, and that costs are at least 1. -/
set_option linter.unusedVariables false
set_option linter.unusedSimpArgs false
set_option maxRecDepth 100000
namespace Go.Sh
open Go
def costQ (cs : List Int) (q : Nat) : Nat := (cs.getD q 0).toNat
end Go.Sh

/- The least tree with the least cost: the plain law. -/
set_option linter.unusedVariables false
set_option linter.unusedSimpArgs false
set_option maxRecDepth 100000
namespace Go.Sh
open Go
section
variable {rs : List RuleL} {ws cs : List Int} {T : CT}
end
end Go.Sh

/- Tables of costs in memory: rows of the reference, cells of the program. -/
set_option linter.unusedVariables false
set_option linter.unusedSimpArgs false
set_option maxRecDepth 100000
namespace Go.Sh
open Go
structure TabE (enc : Option Nat → Int) (w : World) (U : Option Addr) (nons n : Nat) (T : CT) : Prop where
  ptr : 0 < nons → U = some (ad U)
  row : ∀ x, x < nons → ∃ R c, w.cell? ((ad U).add x) = some (.slice R (n * n) c) ∧ R = some (ad R) ∧ ∀ i j, i < n → j < n → w.cell? ((ad R).add (i * n + j)) = some (.int .i64 (enc (T x i j)))
  cap : ∀ x R c, x < nons → w.cell? ((ad U).add x) = some (.slice R (n * n) c) → n * n ≤ c
theorem TabE.gr {enc : Option Nat → Int} {w w' : World} {U : Option Addr} {nons n : Nat} {T : CT} (h : TabE enc w U nons n T) (g : Gr w w') : TabE enc w' U nons n T := ⟨h.ptr, fun x hx => by
  obtain ⟨R, c, h1, h2, h3⟩ := h.row x hx
  exact ⟨R, c, g.cell h1, h2, fun i j hi hj => g.cell (h3 i j hi hj)⟩, fun x R c hx hc => by
  obtain ⟨R', c', h1, _, _⟩ := h.row x hx
  have h4 := g.cell h1
  rw [hc] at h4
  cases h4
  exact h.cap x _ _ hx h1⟩
section
variable {enc : Option Nat → Int} {T : CT}
end
/-! The program's cells. -/
/-! What tables tell. -/
def rowN (enc : Option Nat → Int) (T : CT) (n x : Nat) : List Int := (List.range (n * n)).map fun p => enc (T x (p / n) (p % n))
theorem rowN_length (enc : Option Nat → Int) (T : CT) (n x : Nat) : (rowN enc T n x).length = n * n := by simp [rowN]
theorem TabE.ints {enc : Option Nat → Int} {w : World} {U : Option Addr} {nons n : Nat} {T : CT} (h : TabE enc w U nons n T) (hn : n ≤ 11) {x : Nat} (hx : x < nons) : ∃ R c, w.cell? ((ad U).add x) = some (.slice R (n * n) c) ∧ n * n ≤ c ∧ Ints w R (rowN enc T n x) := by
  obtain ⟨R, c, h1, h2, h3⟩ := h.row x hx
  have hnn : n * n ≤ 11 * 11 := Nat.mul_le_mul hn hn
  refine ⟨R, c, h1, h.cap x R c hx h1, by rw [rowN_length]; omega, fun _ => h2, fun j hj => ?_⟩
  rw [rowN_length] at hj
  have hn0 : 0 < n := by
    cases n with
    | zero => simp at hj
    | succ n => omega
  have h4 := h3 (j / n) (j % n) (Nat.div_lt_of_lt_mul hj) (Nat.mod_lt _ hn0)
  rw [Nat.mul_comm (j / n), Nat.div_add_mod] at h4
  rw [h4]
  congr 2
  simp [rowN, List.getD_eq_getElem?_getD, hj]
/-! Comparing. -/
end Go.Sh

/- Contracts: least costs of a row of symbols: the reference's l10Best, the program's one and rest. -/
set_option linter.unusedVariables false
set_option linter.unusedSimpArgs false
set_option maxRecDepth 100000
namespace Go.Sh
open Go
end Go.Sh
namespace Go.Proofs.Ytegcjkhebecgbaa
open Go Go.Sh Go.RowKit
end Go.Proofs.Ytegcjkhebecgbaa

/- Bh: bodies of functions as terms of the frame calculus, printed by shgen.py of this repository. -/
set_option linter.unusedVariables false
set_option maxRecDepth 100000
namespace Go.Proofs.Ytegcjkhebecgbaa
open Go Go.Sh

/-! loop.example/g00758/spec.LeastMend -/
/-! loop.example/g00758/impl.LeastMend -/
/-! loop.example/g00758/spec.MendTable -/
/-! loop.example/g00758/impl.MendTable -/
/-! loop.example/g00758/spec.l17Word -/
/-! loop.example/g00758/spec.l17Table -/
/-! (loop.example/g00758/impl.Grammar).mends -/
/-! loop.example/g00758/spec.l17Row -/
/-! (*loop.example/g00758/impl.mending).rest -/
/-! loop.example/g00758/spec.l17Token -/
/-! (*loop.example/g00758/impl.mending).one -/
/-! slices.Contains[[]int,int] -/
/-! slices.Index[[]int,int] -/
end Go.Proofs.Ytegcjkhebecgbaa

/- Contracts: how few changes make a token, a row of symbols (the reference's l17Token, l17Row). -/
set_option linter.unusedVariables false
set_option linter.unusedSimpArgs false
set_option maxRecDepth 100000
namespace Go.Sh
open Go
end Go.Sh
namespace Go.Proofs.Ytegcjkhebecgbaa
open Go Go.Sh Go.RowKit
end Go.Proofs.Ytegcjkhebecgbaa

/- Contract: the reference's table of mending (l17Table). -/
set_option linter.unusedVariables false
set_option linter.unusedSimpArgs false
set_option maxRecDepth 100000
namespace Go.Sh
open Go
section
variable {c : CandG} {rs : List RuleL} {n : Nat}
end
end Go.Sh
namespace Go.Proofs.Ytegcjkhebecgbaa
open Go Go.Sh Go.RowKit
end Go.Proofs.Ytegcjkhebecgbaa

/- Contract: the reference's table of least costs (l12Table). -/
set_option linter.unusedVariables false
set_option linter.unusedSimpArgs false
set_option maxRecDepth 100000
namespace Go.Sh
open Go
section
variable {ws cs : List Int} {rs : List RuleL} {n : Nat}
end
/-- Costs that are asked for. -/
structure CostsOk (gm : Gram) (cs : List Int) : Prop where
  len : cs.length = gm.rules.length
  all : ∀ c ∈ cs, 1 ≤ c ∧ c ≤ 100
theorem CostsOk.at {gm : Gram} {cs : List Int} (h : CostsOk gm cs) {q : Nat} (hq : q < gm.rules.length) : cs.getD q 0 = (costQ cs q : Int) ∧ 0 < costQ cs q ∧ costQ cs q ≤ 100 := by
  have hq' : q < cs.length := by rw [h.len]; exact hq
  have hm : cs.getD q 0 ∈ cs := by
    rw [List.getD_eq_getElem?_getD, List.getElem?_eq_getElem hq', Option.getD_some]
    exact List.getElem_mem hq'
  have := h.all _ hm
  unfold costQ
  omega
end Go.Sh
namespace Go.Proofs.Ytegcjkhebecgbaa
open Go Go.Sh Go.RowKit
end Go.Proofs.Ytegcjkhebecgbaa

/- Bo: bodies of functions as terms of the frame calculus, printed by shgen.py of this repository. -/
set_option linter.unusedVariables false
set_option maxRecDepth 100000
namespace Go.Proofs.Ytegcjkhebecgbaa
open Go Go.Sh

/-! loop.example/g00758/spec.l1Rules -/
/-! loop.example/g00758/spec.l11Less -/
end Go.Proofs.Ytegcjkhebecgbaa

/- Contracts: rules of a nonterminal, lists in order, the least tree with the least cost (the reference). -/
set_option linter.unusedVariables false
set_option linter.unusedSimpArgs false
set_option maxRecDepth 100000
namespace Go.Sh
open Go
end Go.Sh
namespace Go.Proofs.Ytegcjkhebecgbaa
open Go Go.Sh Go.RowKit
end Go.Proofs.Ytegcjkhebecgbaa

/- Bp: bodies of functions as terms of the frame calculus, printed by shgen.py of this repository. -/
set_option linter.unusedVariables false
set_option maxRecDepth 100000
namespace Go.Proofs.Ytegcjkhebecgbaa
open Go Go.Sh

/-! loop.example/g00758/spec.TreesUpTo -/
/-! loop.example/g00758/impl.TreesUpTo -/
def pl123 : Plans := fun i => match i with
  | 3 => ⟨true, [], .step 0 .held (.step 1 .held (.step 2 .any (.step 4 .any (.fork 3 (.step 5 .one (.step 6 .any (.step 7 .one (.step 8 .any (.nil))))) 5 (.step 3 .one (.step 6 .any (.step 7 .one (.step 8 .any (.nil)))))))))⟩
  | _ => ⟨false, [], .nil⟩
def S123 (v0 v1 v2 v3 : Value) (k : Value → World → Prop) (w : World) : Prop :=
 Do Try.prog (sBox 26 v0) (fun t1 w2 =>
 Rd Try.prog (WS.at w2) (sLoad 26 t1) fun t3 =>
 CallK Try.prog 148 [t3] (fun t4 w5 =>
 Rd Try.prog (WS.at w5) (sUn .not t4) fun t6 =>
 GuardK t6 false (fun k w' => Rd Try.prog (WS.at w5) (sFieldAddr 26 t1 1) fun v => k v w') (fun t7 w8 =>
 GuardK t6 false (fun k w' => Rd Try.prog (WS.at w8) (sLoad 3 t7) fun v => k v w') (fun t9 w10 =>
 GuardK t6 false (fun k w' => k v1 w') (fun t11 w12 =>
 GuardK t6 false (fun k w' => CallK Try.prog 150 [t9, t11] k w') (fun t13 w14 =>
 GuardK t6 false (fun k w' => Rd Try.prog (WS.at w14) (sUn .not t13) fun v => k v w') (fun t15 w16 =>
 Rd Try.prog (WS.at w16) (sPick t6 (.bool true) t15) fun t17 =>
 GuardK t17 false (fun k w' => k v2 w') (fun t18 w19 =>
 GuardK t17 false (fun k w' => CallK Try.prog 149 [t18, (.int .i64 0), (.int .i64 12)] k w') (fun t20 w21 =>
 GuardK t17 false (fun k w' => Rd Try.prog (WS.at w21) (sUn .not t20) fun v => k v w') (fun t22 w23 =>
 Rd Try.prog (WS.at w23) (sPick t17 (.bool true) t22) fun t24 =>
 GuardK t24 false (fun k w' => k v3 w') (fun t25 w26 =>
 GuardK t24 false (fun k w' => CallK Try.prog 149 [t25, (.int .i64 0), (.int .i64 60)] k w') (fun t27 w28 =>
 GuardK t24 false (fun k w' => Rd Try.prog (WS.at w28) (sUn .not t27) fun v => k v w') (fun t29 w30 =>
 Rd Try.prog (WS.at w30) (sPick t24 (.bool true) t29) fun t31 =>
 CondK t31
  (k (.tuple #[(.slice none 0 0), (.bool false)]) w30)
  (Join (fun K34 =>
  ∃ S32 : World → Prop, ∃ h33 : S32 w30.drew,
  Rd Try.prog ⟨S32, w30.drew, h33⟩ (sLoad 26 t1) fun t37 =>
  Rd Try.prog ⟨S32, w30.drew, h33⟩ (sLoad 26 t1) fun t38 =>
  ((CallK Try.prog 151 [t38, v1] (fun t39 w40 =>
  S32 w40 ∧ Do Try.prog (sMakeMap 198) (fun t41 w42 =>
  S32 w42 ∧ Rd Try.prog WS.any (sBuild 200 [(0, t37), (1, t39), (2, v3), (3, t41)]) fun t43 =>
  Do Try.prog (sBox 200 t43) (fun t44 w45 =>
  S32 w45 ∧ K34 (F.upd (F.upd (F.upd (F.upd (F.upd (F.upd (F.upd (F.upd (F.upd (F.upd (F.upd (F.upd (F.upd (F.upd (F.upd (F.upd (F.upd (F.upd (F.upd (F.upd (F.upd (F.upd (F.upd (F.upd (F.upd (F.upd (F.upd (F.upd (F.upd (F.upd (F.upd (F.upd (initF [v0, v1, v2, v3]) 4 t1) 8 (.slice none 0 0)) 9 (.bool false)) 15 t3) 16 t4) 17 t6) 18 t6) 19 t7) 20 t9) 21 t11) 22 t13) 23 t15) 24 t17) 25 t17) 26 t18) 27 t20) 28 t22) 29 t24) 30 t24) 31 t25) 32 t27) 33 t29) 34 t31) 35 t37) 36 t38) 37 v1) 39 v3) 38 t39) 40 t41) 41 t43) 42 t44) 10 t44) w45) w42) w40) w30.drew) ∧
  (Do Try.prog (sMakeMap 198) (fun t46 w47 =>
  S32 w47 ∧ CallK Try.prog 151 [t38, v1] (fun t48 w49 =>
  S32 w49 ∧ Rd Try.prog WS.any (sBuild 200 [(0, t37), (1, t48), (2, v3), (3, t46)]) fun t50 =>
  Do Try.prog (sBox 200 t50) (fun t51 w52 =>
  S32 w52 ∧ K34 (F.upd (F.upd (F.upd (F.upd (F.upd (F.upd (F.upd (F.upd (F.upd (F.upd (F.upd (F.upd (F.upd (F.upd (F.upd (F.upd (F.upd (F.upd (F.upd (F.upd (F.upd (F.upd (F.upd (F.upd (F.upd (F.upd (F.upd (F.upd (F.upd (F.upd (F.upd (F.upd (initF [v0, v1, v2, v3]) 4 t1) 8 (.slice none 0 0)) 9 (.bool false)) 15 t3) 16 t4) 17 t6) 18 t6) 19 t7) 20 t9) 21 t11) 22 t13) 23 t15) 24 t17) 25 t17) 26 t18) 27 t20) 28 t22) 29 t24) 30 t24) 31 t25) 32 t27) 33 t29) 34 t31) 35 t37) 36 t38) 37 v1) 39 v3) 40 t46) 38 t48) 41 t50) 42 t51) 10 t51) w52) w49) w47) w30.drew))) (fun f35 w36 =>
  Do Try.prog (sBuildSlice 35 0 []) (fun t53 w54 =>
  LoopF [44, 45, 46, 47, 48, 49, 50, 51, 52, 55, 56, 57, 58, 59, 60, 61, 62, 63, 64, 14, 65, 66, 67, 68, 69, 70, 71, 72, 73, 74, 11, 75, 61, 53, 54, 12] (fun Q55 f56 w57 =>
   Rd Try.prog (WS.at w57) (sBin .leq 3 false (f56 12) (f56 2)) fun t58 =>
   GuardK t58 true (fun k w' => k (f56 11) w') (fun t59 w60 =>
   GuardK t58 true (fun k w' => Rd Try.prog (WS.at w60) (sBuiltin .len #[35] 3 [false] [t59]) fun v => k v w') (fun t61 w62 =>
   GuardK t58 true (fun k w' => k (f56 3) w') (fun t63 w64 =>
   GuardK t58 true (fun k w' => Rd Try.prog (WS.at w64) (sBin .lss 3 false t61 t63) fun v => k v w') (fun t65 w66 =>
   Rd Try.prog (WS.at w66) (sPick t58 t65 (.bool false)) fun t67 =>
   CondK t67
    (Rd Try.prog (WS.at w66) (sBuiltin .len #[27] 3 [false] [(f56 1)]) fun t68 =>
    CallK Try.prog 233 [(f56 10), (.int .i64 0), (.int .i64 0), t68, (f56 12)] (fun t69 w70 =>
    Rd Try.prog (WS.at w70) (sBuiltin .len #[35] 3 [false] [t69]) fun t71 =>
    LoopF [62, 63, 64, 14, 65, 66, 67, 68, 69, 70, 71, 72, 73, 74, 11, 75, 61] (fun Q72 f73 w74 =>
     Rd Try.prog (WS.at w74) (sBin .lss 3 false (f73 61) (f73 60)) fun t75 =>
     CondK t75
      (Join (fun K76 =>
      Rd Try.prog (WS.at w74) (sIndexAddr 35 (f73 59) (f73 61)) fun t79 =>
      Rd Try.prog (WS.at w74) (sLoad 27 t79) fun t80 =>
      Rd Try.prog (WS.at w74) (sBuiltin .len #[35] 3 [false] [(f73 11)]) fun t81 =>
      Rd Try.prog (WS.at w74) (sBin .lss 3 false t81 (f73 3)) fun t82 =>
      CondK t82
       (Do Try.prog (sBuildSlice 27 0 []) (fun t83 w84 =>
       Do Try.prog (sBuiltin .append #[27, 27] 27 [false, false] [t83, t80]) (fun t85 w86 =>
       Do Try.prog (sBuildSlice 35 1 [(0, t85)]) (fun t87 w88 =>
       Do Try.prog (sBuiltin .append #[35, 35] 35 [false, false] [(f73 11), t87]) (fun t89 w90 =>
       K76 (F.upd (F.upd (F.upd (F.upd (F.upd (F.upd (F.upd (F.upd (F.upd (F.upd (F.upd (F.upd (F.upd (F.upd (F.upd f73 62 t75) 63 t79) 64 t80) 14 t80) 65 (f73 11)) 66 t81) 67 (f73 3)) 68 t82) 69 (f73 11)) 70 t83) 71 t80) 72 t85) 73 t87) 74 t89) 11 t89) w90) w88) w86) w84) w74)
       (K76 (F.upd (F.upd (F.upd (F.upd (F.upd (F.upd (F.upd (F.upd f73 62 t75) 63 t79) 64 t80) 14 t80) 65 (f73 11)) 66 t81) 67 (f73 3)) 68 t82) w74)) (fun f77 w78 =>
      Rd Try.prog (WS.at w78) (sBin .add 3 true (f77 61) (.int .i64 1)) fun t91 =>
      Q72 .normal (F.upd (F.upd f77 75 t91) 61 t91) w78))
      (Q72 (.exit 2) (F.upd f73 62 t75) w74))
     (blockQ 2 (blockQ 1 (seqQ (fun f92 w93 =>
    Rd Try.prog (WS.at w93) (sBin .add 3 true (f92 12) (.int .i64 1)) fun t94 =>
    Q55 .normal (F.upd (F.upd (F.upd f92 53 (f92 12)) 54 t94) 12 t94) w93) Q55)))
     (F.upd (F.upd (F.upd (F.upd (F.upd (F.upd (F.upd (F.upd (F.upd (F.upd (F.upd (F.upd (F.upd (F.upd (F.upd (F.upd f56 44 (f56 12)) 45 (f56 2)) 46 t58) 47 t58) 48 t59) 49 t61) 50 t63) 51 t65) 52 t67) 55 (f56 10)) 56 (f56 1)) 57 t68) 58 (f56 12)) 59 t69) 60 t71) 61 (.int .i64 0)) w70) w66)
    (Q55 (.exit 0) (F.upd (F.upd (F.upd (F.upd (F.upd (F.upd (F.upd (F.upd (F.upd f56 44 (f56 12)) 45 (f56 2)) 46 t58) 47 t58) 48 t59) 49 t61) 50 t63) 51 t65) 52 t67) w66)) w64) w62) w60) w57)
   (blockQ 0 (seqQ (fun f95 w96 =>
  k (.tuple #[(f95 11), (.bool true)]) w96) (bodyQ Try.prog [.tmp 8, .tmp 9] k)))
   (F.upd (F.upd (F.upd f35 43 t53) 11 t53) 12 (.int .i64 1)) w54) w36))) w28) w26) w23) w21) w19) w16) w14) w12) w10) w8) w5) w2) w
theorem body123 : Try.f123.body = some (bodyOf Try.f123) := by kernel_rfl
theorem same123 (v0 v1 v2 v3 : Value) (k : Value → World → Prop) (w : World) : wpF Try.prog pl123 (bodyOf Try.f123) (bodyQ Try.prog Try.f123.results.toList k) (initF [v0, v1, v2, v3]) w = S123 v0 v1 v2 v3 k w := by kernel_rfl
theorem enter123 {v0 v1 v2 v3 : Value} {k : Value → World → Prop} {w : World} (h : S123 v0 v1 v2 v3 k w) : CallK Try.prog 123 [v0, v1, v2, v3] k w :=
  call_of_wpF (pl := pl123) mixed Try.func123 body123 (by kernel_rfl) (of_decide_eq_true (by kernel_rfl)) (by kernel_rfl) (by kernel_rfl) (Eq.mpr (same123 v0 v1 v2 v3 k w) h)

/-! loop.example/g00758/spec.l11Trees -/
/-! (*loop.example/g00758/impl.told).trees -/
def pl233 : Plans := fun _ => ⟨false, [], .nil⟩
def S233 (v0 v1 v2 v3 v4 : Value) (k : Value → World → Prop) (w : World) : Prop :=
 Do Try.prog (sBuildSlice 35 0 []) (fun t1 w2 =>
 Rd Try.prog (WS.at w2) (sBin .lss 3 true v4 (.int .i64 1)) fun t3 =>
 GuardK t3 false (fun k w' => k v0 w') (fun t4 w5 =>
 GuardK t3 false (fun k w' => Rd Try.prog (WS.at w5) (sNilCheck t4) fun v => k v w') (fun t6 w7 =>
 GuardK t3 false (fun k w' => Rd Try.prog (WS.at w7) (sFieldAddr 200 t6 1) fun v => k v w') (fun t8 w9 =>
 GuardK t3 false (fun k w' => Rd Try.prog (WS.at w9) (sLoad 125 t8) fun v => k v w') (fun t10 w11 =>
 GuardK t3 false (fun k w' => k v1 w') (fun t12 w13 =>
 GuardK t3 false (fun k w' => k v2 w') (fun t14 w15 =>
 GuardK t3 false (fun k w' => k v3 w') (fun t16 w17 =>
 GuardK t3 false (fun k w' => Rd Try.prog (WS.at w17) (sNilCheck t10) fun v => k v w') (fun t18 w19 =>
 GuardK t3 false (fun k w' => Rd Try.prog (WS.at w19) (sFieldAddr 124 t18 1) fun v => k v w') (fun t20 w21 =>
 GuardK t3 false (fun k w' => Rd Try.prog (WS.at w21) (sIndexAddr 122 t20 t12) fun v => k v w') (fun t22 w23 =>
 GuardK t3 false (fun k w' => Rd Try.prog (WS.at w23) (sIndexAddr 121 t22 t14) fun v => k v w') (fun t24 w25 =>
 GuardK t3 false (fun k w' => Rd Try.prog (WS.at w25) (sIndexAddr 120 t24 t16) fun v => k v w') (fun t26 w27 =>
 GuardK t3 false (fun k w' => Rd Try.prog (WS.at w27) (sLoad 4 t26) fun v => k v w') (fun t28 w29 =>
 GuardK t3 false (fun k w' => Rd Try.prog (WS.at w29) (sUn .not t28) fun v => k v w') (fun t30 w31 =>
 Rd Try.prog (WS.at w31) (sPick t3 (.bool true) t30) fun t32 =>
 CondK t32
  (k t1 w31)
  (Rd Try.prog (WS.at w31) (sNilCheck v0) fun t33 =>
  Rd Try.prog (WS.at w31) (sFieldAddr 200 t33 0) fun t34 =>
  Rd Try.prog (WS.at w31) (sFieldAddr 26 t34 2) fun t35 =>
  Rd Try.prog (WS.at w31) (sLoad 24 t35) fun t36 =>
  Rd Try.prog (WS.at w31) (sBuiltin .len #[24] 3 [false] [t36]) fun t37 =>
  LoopF [43, 44, 45, 46, 13, 12, 47, 48, 49, 50, 51, 52, 53, 54, 55, 56, 57, 58, 59, 60, 61, 62, 63, 64, 65, 66, 67, 68, 69, 70, 71, 15, 72, 73, 74, 75, 76, 77, 78, 11, 79, 68, 80, 42] (fun Q38 f39 w40 =>
   Rd Try.prog (WS.at w40) (sBin .lss 3 false (f39 42) (f39 41)) fun t41 =>
   CondK t41
    (Join (fun K42 =>
    Rd Try.prog (WS.at w40) (sIndexAddr 24 (f39 40) (f39 42)) fun t45 =>
    Rd Try.prog (WS.at w40) (sLoad 33 t45) fun t46 =>
    Do Try.prog (sAlloc 33) (fun t47 w48 =>
    Do Try.prog (sStore 33 t47 t46) (fun _ w49 =>
    Rd Try.prog (WS.at w49) (sFieldAddr 33 t47 0) fun t50 =>
    Rd Try.prog (WS.at w49) (sLoad 3 t50) fun t51 =>
    Rd Try.prog (WS.at w49) (sBin .neq 3 false t51 (f39 1)) fun t52 =>
    GuardK t52 false (fun k w' => k (f39 11) w') (fun t53 w54 =>
    GuardK t52 false (fun k w' => Rd Try.prog (WS.at w54) (sBuiltin .len #[35] 3 [false] [t53]) fun v => k v w') (fun t55 w56 =>
    GuardK t52 false (fun k w' => k (f39 0) w') (fun t57 w58 =>
    GuardK t52 false (fun k w' => Rd Try.prog (WS.at w58) (sNilCheck t57) fun v => k v w') (fun t59 w60 =>
    GuardK t52 false (fun k w' => Rd Try.prog (WS.at w60) (sFieldAddr 200 t59 2) fun v => k v w') (fun t61 w62 =>
    GuardK t52 false (fun k w' => Rd Try.prog (WS.at w62) (sLoad 3 t61) fun v => k v w') (fun t63 w64 =>
    GuardK t52 false (fun k w' => Rd Try.prog (WS.at w64) (sBin .geq 3 false t55 t63) fun v => k v w') (fun t65 w66 =>
    Rd Try.prog (WS.at w66) (sPick t52 (.bool true) t65) fun t67 =>
    CondK t67
     (K42 (F.upd (F.upd (F.upd (F.upd (F.upd (F.upd (F.upd (F.upd (F.upd (F.upd (F.upd (F.upd (F.upd (F.upd (F.upd (F.upd (F.upd (F.upd (F.upd f39 43 t41) 44 (f39 42)) 45 t45) 46 t46) 13 t47) 12 (f39 42)) 47 t50) 48 t51) 49 (f39 1)) 50 t52) 51 t52) 52 t53) 53 t55) 54 t57) 55 t59) 56 t61) 57 t63) 58 t65) 59 t67) w66)
     (Rd Try.prog (WS.at w66) (sBin .sub 3 true (f39 4) (.int .i64 1)) fun t68 =>
     CallK Try.prog 298 [(f39 0), (f39 42), (.int .i64 0), (f39 2), (f39 3), t68] (fun t69 w70 =>
     Rd Try.prog (WS.at w70) (sBuiltin .len #[35] 3 [false] [t69]) fun t71 =>
     LoopF [69, 70, 71, 15, 72, 73, 74, 75, 76, 77, 78, 11, 79, 68] (fun Q72 f73 w74 =>
      Rd Try.prog (WS.at w74) (sBin .lss 3 false (f73 68) (f73 67)) fun t75 =>
      CondK t75
       (Rd Try.prog (WS.at w74) (sIndexAddr 35 (f73 66) (f73 68)) fun t76 =>
       Rd Try.prog (WS.at w74) (sLoad 27 t76) fun t77 =>
       Do Try.prog (sBuildSlice 27 1 [(0, (f73 12))]) (fun t78 w79 =>
       Do Try.prog (sBuiltin .append #[27, 27] 27 [false, false] [t78, t77]) (fun t80 w81 =>
       Do Try.prog (sBuildSlice 35 1 [(0, t80)]) (fun t82 w83 =>
       Do Try.prog (sBuiltin .append #[35, 35] 35 [false, false] [(f73 11), t82]) (fun t84 w85 =>
       Rd Try.prog (WS.at w85) (sBin .add 3 true (f73 68) (.int .i64 1)) fun t86 =>
       Q72 .normal (F.upd (F.upd (F.upd (F.upd (F.upd (F.upd (F.upd (F.upd (F.upd (F.upd (F.upd (F.upd (F.upd (F.upd f73 69 t75) 70 t76) 71 t77) 15 t77) 72 (f73 11)) 73 (f73 12)) 74 t78) 75 t77) 76 t80) 77 t82) 78 t84) 11 t84) 79 t86) 68 t86) w85) w83) w81) w79) w74)
       (Q72 (.exit 2) (F.upd f73 69 t75) w74))
      (blockQ 2 (blockQ 1 (seqQ K42 Q38)))
      (F.upd (F.upd (F.upd (F.upd (F.upd (F.upd (F.upd (F.upd (F.upd (F.upd (F.upd (F.upd (F.upd (F.upd (F.upd (F.upd (F.upd (F.upd (F.upd (F.upd (F.upd (F.upd (F.upd (F.upd (F.upd (F.upd (F.upd (F.upd f39 43 t41) 44 (f39 42)) 45 t45) 46 t46) 13 t47) 12 (f39 42)) 47 t50) 48 t51) 49 (f39 1)) 50 t52) 51 t52) 52 t53) 53 t55) 54 t57) 55 t59) 56 t61) 57 t63) 58 t65) 59 t67) 60 (f39 0)) 61 (f39 42)) 62 (f39 2)) 63 (f39 3)) 64 (f39 4)) 65 t68) 66 t69) 67 t71) 68 (.int .i64 0)) w70) w66)) w64) w62) w60) w58) w56) w54) w49) w48) w40) (fun f43 w44 =>
    Rd Try.prog (WS.at w44) (sBin .add 3 true (f43 42) (.int .i64 1)) fun t89 =>
    Q38 .normal (F.upd (F.upd f43 80 t89) 42 t89) w44))
    (Q38 (.exit 0) (F.upd f39 43 t41) w40))
   (blockQ 0 (seqQ (fun f90 w91 =>
  CallK Try.prog 299 [(f90 0), (f90 11)] (fun t92 w93 =>
  k t92 w93) w91) (bodyQ Try.prog [.tmp 10] k)))
   (F.upd (F.upd (F.upd (F.upd (F.upd (F.upd (F.upd (F.upd (F.upd (F.upd (F.upd (F.upd (F.upd (F.upd (F.upd (F.upd (F.upd (F.upd (F.upd (F.upd (F.upd (F.upd (F.upd (F.upd (F.upd (F.upd (F.upd (F.upd (initF [v0, v1, v2, v3, v4]) 10 (.slice none 0 0)) 16 t1) 11 t1) 17 v4) 18 t3) 19 t3) 20 t4) 21 t6) 22 t8) 23 t10) 24 t12) 25 t14) 26 t16) 27 t18) 28 t20) 29 t22) 30 t24) 31 t26) 32 t28) 33 t30) 34 t32) 36 v0) 37 t33) 38 t34) 39 t35) 40 t36) 41 t37) 42 (.int .i64 0)) w31)) w29) w27) w25) w23) w21) w19) w17) w15) w13) w11) w9) w7) w5) w2) w
theorem body233 : Try.f233.body = some (bodyOf Try.f233) := by kernel_rfl
theorem same233 (v0 v1 v2 v3 v4 : Value) (k : Value → World → Prop) (w : World) : wpF Try.prog pl233 (bodyOf Try.f233) (bodyQ Try.prog Try.f233.results.toList k) (initF [v0, v1, v2, v3, v4]) w = S233 v0 v1 v2 v3 v4 k w := by kernel_rfl
theorem enter233 {v0 v1 v2 v3 v4 : Value} {k : Value → World → Prop} {w : World} (h : S233 v0 v1 v2 v3 v4 k w) : CallK Try.prog 233 [v0, v1, v2, v3, v4] k w :=
  call_of_wpF (pl := pl233) mixed Try.func233 body233 (by kernel_rfl) (of_decide_eq_true (by kernel_rfl)) (by kernel_rfl) (by kernel_rfl) (Eq.mpr (same233 v0 v1 v2 v3 v4 k w) h)

/-! (*loop.example/g00758/spec.l11Make).trees -/
/-! (*loop.example/g00758/impl.told).rest -/
def pl298 : Plans := fun i => match i with
  | 12 => ⟨false, [5], .step 0 .any (.step 1 .any (.step 2 .any (.step 3 .held (.step 4 .held (.step 5 .last (.step 6 .any (.step 7 .any (.step 8 .any (.step 9 .any (.step 10 .any (.nil)))))))))))⟩
  | 19 => ⟨false, [8], .step 0 .any (.step 1 .any (.step 2 .any (.step 3 .held (.step 4 .any (.step 5 .any (.step 6 .any (.step 7 .any (.step 8 .last (.step 9 .any (.nil))))))))))⟩
  | 37 => ⟨true, [8], .step 0 .any (.step 1 .any (.step 2 .any (.step 3 .held (.step 4 .held (.step 5 .any (.step 6 .any (.step 7 .one (.step 8 .last (.nil)))))))))⟩
  | 38 => ⟨false, [5], .step 0 .any (.step 1 .any (.step 2 .any (.step 3 .held (.step 4 .held (.step 5 .last (.step 6 .any (.nil)))))))⟩
  | _ => ⟨false, [], .nil⟩
def S298 (v0 v1 v2 v3 v4 v5 : Value) (k : Value → World → Prop) (w : World) : Prop :=
 Rd Try.prog (WS.at w) (sNilCheck v0) fun t1 =>
 Rd Try.prog (WS.at w) (sFieldAddr 200 t1 0) fun t2 =>
 Rd Try.prog (WS.at w) (sFieldAddr 26 t2 2) fun t3 =>
 Rd Try.prog (WS.at w) (sLoad 24 t3) fun t4 =>
 Rd Try.prog (WS.at w) (sIndexAddr 24 t4 v1) fun t5 =>
 Rd Try.prog (WS.at w) (sFieldAddr 33 t5 1) fun t6 =>
 Rd Try.prog (WS.at w) (sLoad 27 t6) fun t7 =>
 Rd Try.prog (WS.at w) (sSlice 27 t7 (some v2) none none) fun t8 =>
 Rd Try.prog (WS.at w) (sBuiltin .len #[27] 3 [false] [t8]) fun t9 =>
 Rd Try.prog (WS.at w) (sBin .eql 3 true t9 (.int .i64 0)) fun t10 =>
 CondK t10
  (Rd Try.prog (WS.at w) (sBin .eql 3 false v3 v4) fun t11 =>
  GuardK t11 true (fun k w' => k v5 w') (fun t12 w13 =>
  GuardK t11 true (fun k w' => Rd Try.prog (WS.at w13) (sBin .eql 3 true t12 (.int .i64 0)) fun v => k v w') (fun t14 w15 =>
  Rd Try.prog (WS.at w15) (sPick t11 t14 (.bool false)) fun t16 =>
  CondK t16
   (Do Try.prog (sBuildSlice 27 0 []) (fun t17 w18 =>
   Do Try.prog (sBuildSlice 35 1 [(0, t17)]) (fun t19 w20 =>
   k t19 w20) w18) w15)
   (k (.slice none 0 0) w15)) w13) w)
  (Rd Try.prog (WS.at w) (sNilCheck v0) fun t21 =>
  Rd Try.prog (WS.at w) (sFieldAddr 200 t21 1) fun t22 =>
  Rd Try.prog (WS.at w) (sLoad 125 t22) fun t23 =>
  CallK Try.prog 155 [t23, t8, v3, v4] (fun t24 w25 =>
  Rd Try.prog (WS.at w25) (sUn .not t24) fun t26 =>
  CondK t26
   (k (.slice none 0 0) w25)
   (Rd Try.prog (WS.at w25) (sIndexAddr 27 t8 (.int .i64 0)) fun t27 =>
   Rd Try.prog (WS.at w25) (sLoad 3 t27) fun t28 =>
   Rd Try.prog (WS.at w25) (sBin .lss 3 true t28 (.int .i64 0)) fun t29 =>
   CondK t29
    (Rd Try.prog (WS.at w25) (sBin .add 3 true v2 (.int .i64 1)) fun t30 =>
    Rd Try.prog (WS.at w25) (sBin .add 3 true v3 (.int .i64 1)) fun t31 =>
    CallK Try.prog 298 [v0, v1, t30, t31, v4, v5] (fun t32 w33 =>
    k t32 w33) w25)
    (Rd Try.prog (WS.at w25) (sBin .mul 3 true v1 (.int .i64 5)) fun t34 =>
    Rd Try.prog (WS.at w25) (sBin .add 3 false t34 v2) fun t35 =>
    Rd Try.prog (WS.at w25) (sBuild 257 [(0, t35), (1, v3), (2, v4), (3, v5)]) fun t36 =>
    Do Try.prog (sAlloc 257) (fun t37 w38 =>
    Do Try.prog (sStore 257 t37 t36) (fun _ w39 =>
    Rd Try.prog WS.any (sNilCheck v0) fun t40 =>
    Rd Try.prog WS.any (sFieldAddr 200 t40 3) fun t41 =>
    Rd Try.prog (WS.at w39.drew) (sLoad 198 t41) fun t42 =>
    Rd Try.prog (WS.at w39.drew) (sLoad 257 t37) fun t43 =>
    Do Try.prog (sLookup 198 t42 t43 true) (fun t44 w45 =>
    Rd Try.prog WS.any (sExtract t44 0) fun t46 =>
    Rd Try.prog WS.any (sExtract t44 1) fun t47 =>
    CondK t47
     (k t46 w45)
     (Do Try.prog (sBuildSlice 35 0 []) (fun t48 w49 =>
     LoopF [94, 95, 96, 99, 100, 101, 102, 103, 104, 105, 106, 107, 108, 20, 109, 110, 111, 114, 115, 116, 117, 118, 119, 120, 121, 122, 123, 21, 124, 125, 126, 22, 127, 128, 129, 130, 131, 132, 133, 134, 135, 136, 137, 24, 138, 139, 140, 141, 142, 143, 26, 144, 145, 146, 147, 148, 149, 150, 151, 152, 153, 154, 155, 156, 157, 18, 158, 159, 22, 160, 140, 161, 134, 112, 113, 20, 97, 98, 19] (fun Q50 f51 w52 =>
      Rd Try.prog (WS.at w52) (sBin .leq 3 false (f51 19) (f51 4)) fun t53 =>
      CondK t53
       (Join (fun K54 =>
       Rd Try.prog WS.any (sNilCheck (f51 0)) fun t57 =>
       Rd Try.prog WS.any (sFieldAddr 200 t57 1) fun t58 =>
       Rd Try.prog (WS.at w52.drew) (sLoad 125 t58) fun t59 =>
       Rd Try.prog WS.any (sSlice 27 (f51 13) (some (.int .i64 1)) none none) fun t60 =>
       CallK Try.prog 155 [t59, t60, (f51 19), (f51 4)] (fun t61 w62 =>
       Rd Try.prog WS.any (sUn .not t61) fun t63 =>
       CondK t63
        (K54 (F.upd (F.upd (F.upd (F.upd (F.upd (F.upd (F.upd (F.upd (F.upd (F.upd (F.upd (F.upd (F.upd f51 94 (f51 19)) 95 (f51 4)) 96 t53) 99 (f51 0)) 100 t57) 101 t58) 102 t59) 103 (f51 13)) 104 t60) 105 (f51 19)) 106 (f51 4)) 107 t61) 108 t63) w62)
        (LoopF [109, 110, 111, 114, 115, 116, 117, 118, 119, 120, 121, 122, 123, 21, 124, 125, 126, 22, 127, 128, 129, 130, 131, 132, 133, 134, 135, 136, 137, 24, 138, 139, 140, 141, 142, 143, 26, 144, 145, 146, 147, 148, 149, 150, 151, 152, 153, 154, 155, 156, 157, 18, 158, 159, 22, 160, 140, 161, 134, 112, 113, 20] (fun Q64 f65 w66 =>
         Rd Try.prog (WS.at w66) (sBin .leq 3 false (f65 20) (f65 5)) fun t67 =>
         CondK t67
          (Join (fun K68 =>
          Rd Try.prog (WS.at w66) (sBin .add 3 true (f65 2) (.int .i64 1)) fun t71 =>
          Rd Try.prog (WS.at w66) (sBin .sub 3 false (f65 5) (f65 20)) fun t72 =>
          CallK Try.prog 298 [(f65 0), (f65 1), t71, (f65 19), (f65 4), t72] (fun t73 w74 =>
          Rd Try.prog (WS.at w74) (sBuiltin .len #[35] 3 [false] [t73]) fun t75 =>
          Rd Try.prog (WS.at w74) (sBin .eql 3 true t75 (.int .i64 0)) fun t76 =>
          CondK t76
           (K68 (F.upd (F.upd (F.upd (F.upd (F.upd (F.upd (F.upd (F.upd (F.upd (F.upd (F.upd (F.upd (F.upd (F.upd (F.upd (F.upd (F.upd f65 109 (f65 20)) 110 (f65 5)) 111 t67) 114 (f65 0)) 115 (f65 1)) 116 (f65 2)) 117 t71) 118 (f65 19)) 119 (f65 4)) 120 (f65 5)) 121 (f65 20)) 122 t72) 123 t73) 21 t73) 124 t73) 125 t75) 126 t76) w74)
           (CallK Try.prog 233 [(f65 0), (f65 14), (f65 3), (f65 19), (f65 20)] (fun t77 w78 =>
           Rd Try.prog (WS.at w78) (sBuiltin .len #[35] 3 [false] [t77]) fun t79 =>
           LoopF [135, 136, 137, 24, 138, 139, 140, 141, 142, 143, 26, 144, 145, 146, 147, 148, 149, 150, 151, 152, 153, 154, 155, 156, 157, 18, 158, 159, 22, 160, 140, 161, 134] (fun Q80 f81 w82 =>
            Rd Try.prog (WS.at w82) (sBin .lss 3 false (f81 134) (f81 133)) fun t83 =>
            CondK t83
             (Rd Try.prog (WS.at w82) (sIndexAddr 35 (f81 132) (f81 134)) fun t84 =>
             Rd Try.prog (WS.at w82) (sLoad 27 t84) fun t85 =>
             Rd Try.prog (WS.at w82) (sBuiltin .len #[35] 3 [false] [(f81 21)]) fun t86 =>
             LoopF [141, 142, 143, 26, 144, 145, 146, 147, 148, 149, 150, 151, 152, 153, 154, 155, 156, 157, 18, 158, 159, 22, 160, 140] (fun Q87 f88 w89 =>
              Rd Try.prog (WS.at w89) (sBin .lss 3 false (f88 140) (f88 139)) fun t90 =>
              CondK t90
               (Join (fun K91 =>
               Rd Try.prog (WS.at w89) (sIndexAddr 35 (f88 138) (f88 140)) fun t94 =>
               Rd Try.prog (WS.at w89) (sLoad 27 t94) fun t95 =>
               Join (fun K96 =>
               Rd Try.prog (WS.at w89) (sNilCheck (f88 0)) fun t99 =>
               Rd Try.prog (WS.at w89) (sFieldAddr 200 t99 2) fun t100 =>
               Rd Try.prog (WS.at w89) (sLoad 3 t100) fun t101 =>
               Rd Try.prog (WS.at w89) (sBin .lss 3 false (f88 22) t101) fun t102 =>
               CondK t102
                (Do Try.prog (sBuildSlice 27 0 []) (fun t103 w104 =>
                Do Try.prog (sBuiltin .append #[27, 27] 27 [false, false] [t103, (f88 24)]) (fun t105 w106 =>
                Do Try.prog (sBuiltin .append #[27, 27] 27 [false, false] [t105, t95]) (fun t107 w108 =>
                Do Try.prog (sBuildSlice 35 1 [(0, t107)]) (fun t109 w110 =>
                Do Try.prog (sBuiltin .append #[35, 35] 35 [false, false] [(f88 18), t109]) (fun t111 w112 =>
                K96 (F.upd (F.upd (F.upd (F.upd (F.upd (F.upd (F.upd (F.upd (F.upd (F.upd (F.upd (F.upd (F.upd (F.upd (F.upd (F.upd (F.upd (F.upd (F.upd f88 141 t90) 142 t94) 143 t95) 26 t95) 144 (f88 22)) 145 (f88 0)) 146 t99) 147 t100) 148 t101) 149 t102) 150 (f88 18)) 151 t103) 152 (f88 24)) 153 t105) 154 t95) 155 t107) 156 t109) 157 t111) 18 t111) w112) w110) w108) w106) w104) w89)
                (K96 (F.upd (F.upd (F.upd (F.upd (F.upd (F.upd (F.upd (F.upd (F.upd (F.upd f88 141 t90) 142 t94) 143 t95) 26 t95) 144 (f88 22)) 145 (f88 0)) 146 t99) 147 t100) 148 t101) 149 t102) w89)) (fun f97 w98 =>
               Rd Try.prog (WS.at w98) (sBin .add 3 true (f97 22) (.int .i64 1)) fun t113 =>
               K91 (F.upd (F.upd (F.upd f97 158 (f97 22)) 159 t113) 22 t113) w98)) (fun f92 w93 =>
               Rd Try.prog (WS.at w93) (sBin .add 3 true (f92 140) (.int .i64 1)) fun t114 =>
               Q87 .normal (F.upd (F.upd f92 160 t114) 140 t114) w93))
               (Q87 (.exit 6) (F.upd f88 141 t90) w89))
              (blockQ 6 (blockQ 5 (seqQ (fun f115 w116 =>
             Rd Try.prog (WS.at w116) (sBin .add 3 true (f115 134) (.int .i64 1)) fun t117 =>
             Q80 .normal (F.upd (F.upd f115 161 t117) 134 t117) w116) Q80)))
              (F.upd (F.upd (F.upd (F.upd (F.upd (F.upd (F.upd f81 135 t83) 136 t84) 137 t85) 24 t85) 138 (f81 21)) 139 t86) 140 (.int .i64 0)) w82)
             (Q80 (.exit 4) (F.upd f81 135 t83) w82))
            (blockQ 4 (blockQ 3 (seqQ K68 Q64)))
            (F.upd (F.upd (F.upd (F.upd (F.upd (F.upd (F.upd (F.upd (F.upd (F.upd (F.upd (F.upd (F.upd (F.upd (F.upd (F.upd (F.upd (F.upd (F.upd (F.upd (F.upd (F.upd (F.upd (F.upd (F.upd (F.upd f65 109 (f65 20)) 110 (f65 5)) 111 t67) 114 (f65 0)) 115 (f65 1)) 116 (f65 2)) 117 t71) 118 (f65 19)) 119 (f65 4)) 120 (f65 5)) 121 (f65 20)) 122 t72) 123 t73) 21 t73) 124 t73) 125 t75) 126 t76) 22 (.int .i64 0)) 127 (f65 0)) 128 (f65 14)) 129 (f65 3)) 130 (f65 19)) 131 (f65 20)) 132 t77) 133 t79) 134 (.int .i64 0)) w78) w74)) w66) (fun f69 w70 =>
          Rd Try.prog (WS.at w70) (sBin .add 3 true (f69 20) (.int .i64 1)) fun t120 =>
          Q64 .normal (F.upd (F.upd (F.upd f69 112 (f69 20)) 113 t120) 20 t120) w70))
          (Q64 (.exit 2) (F.upd (F.upd (F.upd f65 109 (f65 20)) 110 (f65 5)) 111 t67) w66))
         (blockQ 2 (blockQ 1 (seqQ K54 Q50)))
         (F.upd (F.upd (F.upd (F.upd (F.upd (F.upd (F.upd (F.upd (F.upd (F.upd (F.upd (F.upd (F.upd (F.upd f51 94 (f51 19)) 95 (f51 4)) 96 t53) 99 (f51 0)) 100 t57) 101 t58) 102 t59) 103 (f51 13)) 104 t60) 105 (f51 19)) 106 (f51 4)) 107 t61) 108 t63) 20 (.int .i64 1)) w62)) w52.drew) (fun f55 w56 =>
       Rd Try.prog (WS.at w56) (sBin .add 3 true (f55 19) (.int .i64 1)) fun t123 =>
       Q50 .normal (F.upd (F.upd (F.upd f55 97 (f55 19)) 98 t123) 19 t123) w56))
       (Q50 (.exit 0) (F.upd (F.upd (F.upd f51 94 (f51 19)) 95 (f51 4)) 96 t53) w52))
      (blockQ 0 (seqQ (fun f124 w125 =>
     ∃ S126 : World → Prop, ∃ h127 : S126 w125.drew,
     Rd Try.prog WS.any (sNilCheck (f124 0)) fun t128 =>
     Rd Try.prog WS.any (sFieldAddr 200 t128 3) fun t129 =>
     Rd Try.prog ⟨S126, w125.drew, h127⟩ (sLoad 198 t129) fun t130 =>
     Rd Try.prog ⟨S126, w125.drew, h127⟩ (sLoad 257 (f124 15)) fun t131 =>
     CallK Try.prog 299 [(f124 0), (f124 18)] (fun t132 w133 =>
     S126 w133 ∧ Do Try.prog (sMapUpdate 198 t130 t131 t132) (fun _ w134 =>
     Rd Try.prog WS.any (sNilCheck (f124 0)) fun t135 =>
     Rd Try.prog WS.any (sFieldAddr 200 t135 3) fun t136 =>
     Rd Try.prog (WS.at w134.drew) (sLoad 198 t136) fun t137 =>
     Rd Try.prog (WS.at w134.drew) (sLoad 257 (f124 15)) fun t138 =>
     Do Try.prog (sLookup 198 t137 t138 false) (fun t139 w140 =>
     k t139 w140) w134.drew) w133) w125.drew) (bodyQ Try.prog [.tmp 12] k)))
      (F.upd (F.upd (F.upd (F.upd (F.upd (F.upd (F.upd (F.upd (F.upd (F.upd (F.upd (F.upd (F.upd (F.upd (F.upd (F.upd (F.upd (F.upd (F.upd (F.upd (F.upd (F.upd (F.upd (F.upd (F.upd (F.upd (F.upd (F.upd (F.upd (F.upd (F.upd (F.upd (F.upd (F.upd (F.upd (F.upd (F.upd (F.upd (F.upd (F.upd (F.upd (F.upd (F.upd (F.upd (F.upd (F.upd (F.upd (F.upd (F.upd (F.upd (F.upd (F.upd (F.upd (F.upd (F.upd (F.upd (initF [v0, v1, v2, v3, v4, v5]) 12 (.slice none 0 0)) 27 v0) 28 t1) 29 t2) 30 t3) 31 t4) 32 v1) 33 t5) 34 t6) 35 t7) 36 v2) 37 t8) 13 t8) 38 t8) 39 t9) 40 t10) 50 v0) 51 t21) 52 t22) 53 t23) 54 t8) 55 v3) 56 v4) 57 t24) 58 t26) 59 t8) 60 t27) 61 t28) 14 t28) 62 t28) 63 t29) 73 v1) 74 t34) 75 v2) 76 t35) 77 v3) 78 v4) 79 v5) 80 t36) 15 t37) 82 v0) 83 t40) 84 t41) 85 t42) 86 t43) 87 t44) 81 t44) 88 t46) 89 t47) 16 t46) 17 t47) 90 t47) 92 t48) 18 t48) 93 v3) 19 v3) w49) w45)) w39.drew) w38) w25))) w)
theorem body298 : Try.f298.body = some (bodyOf Try.f298) := by kernel_rfl
theorem same298 (v0 v1 v2 v3 v4 v5 : Value) (k : Value → World → Prop) (w : World) : wpF Try.prog pl298 (bodyOf Try.f298) (bodyQ Try.prog Try.f298.results.toList k) (initF [v0, v1, v2, v3, v4, v5]) w = S298 v0 v1 v2 v3 v4 v5 k w := by kernel_rfl
theorem enter298 {v0 v1 v2 v3 v4 v5 : Value} {k : Value → World → Prop} {w : World} (h : S298 v0 v1 v2 v3 v4 v5 k w) : CallK Try.prog 298 [v0, v1, v2, v3, v4, v5] k w :=
  call_of_wpF (pl := pl298) mixed Try.func298 body298 (by kernel_rfl) (of_decide_eq_true (by kernel_rfl)) (by kernel_rfl) (by kernel_rfl) (Eq.mpr (same298 v0 v1 v2 v3 v4 v5 k w) h)

/-! (*loop.example/g00758/impl.told).firsts -/
def pl299 : Plans := fun _ => ⟨false, [], .nil⟩
def S299 (v0 v1 : Value) (k : Value → World → Prop) (w : World) : Prop :=
 CallK Try.prog 318 [v1, (.func (.func 281) #[] #[])] (fun t1 w2 =>
 Rd Try.prog (WS.at w2) (sBuiltin .len #[35] 3 [false] [v1]) fun t3 =>
 Rd Try.prog (WS.at w2) (sNilCheck v0) fun t4 =>
 Rd Try.prog (WS.at w2) (sFieldAddr 200 t4 2) fun t5 =>
 Rd Try.prog (WS.at w2) (sLoad 3 t5) fun t6 =>
 Rd Try.prog (WS.at w2) (sBuiltin .min #[3, 3] 3 [false, false] [t3, t6]) fun t7 =>
 Rd Try.prog (WS.at w2) (sSlice 35 v1 none (some t7) none) fun t8 =>
 k t8 w2) w
theorem body299 : Try.f299.body = some (bodyOf Try.f299) := by kernel_rfl
theorem same299 (v0 v1 : Value) (k : Value → World → Prop) (w : World) : wpF Try.prog pl299 (bodyOf Try.f299) (bodyQ Try.prog Try.f299.results.toList k) (initF [v0, v1]) w = S299 v0 v1 k w := by kernel_rfl
theorem enter299 {v0 v1 : Value} {k : Value → World → Prop} {w : World} (h : S299 v0 v1 k w) : CallK Try.prog 299 [v0, v1] k w :=
  call_of_wpF (pl := pl299) mixed Try.func299 body299 (by kernel_rfl) (of_decide_eq_true (by kernel_rfl)) (by kernel_rfl) (by kernel_rfl) (Eq.mpr (same299 v0 v1 k w) h)

/-! (*loop.example/g00758/spec.l11Make).row -/
/-! loop.example/g00758/spec.l11Insert -/
end Go.Proofs.Ytegcjkhebecgbaa

/- Contract: a list comes among rising ones (the reference's l11Insert). -/
set_option linter.unusedVariables false
set_option linter.unusedSimpArgs false
set_option maxRecDepth 100000
namespace Go.Sh
open Go
/-- What stands in the cells of a slice of slices. -/
structure Slots (F : Nat → Prop) (w : World) (ls : List (List Int)) (cells : List Value) : Prop where
  len : cells.length = ls.length
  cell : ∀ (j : Nat) (v : Value), cells[j]? = some v → ∃ Y c, v = .slice Y (rgt ls j).length c ∧ (rgt ls j).length ≤ c ∧ IntsF F w Y (rgt ls j)
theorem Slots.gr {F : Nat → Prop} {w w' : World} {ls : List (List Int)} {cells : List Value} (h : Slots F w ls cells) (g : Gr w w') : Slots F w' ls cells := ⟨h.len, fun j v hv => by
  obtain ⟨Y, c, h1, h2, h3⟩ := h.cell j v hv
  exact ⟨Y, c, h1, h2, h3.gr g⟩⟩
theorem Slots.nil (F : Nat → Prop) (w : World) : Slots F w [] [] := ⟨rfl, fun j v hv => by simp at hv⟩
theorem Slots.single {F : Nat → Prop} {w : World} {x : List Int} {Y : Option Addr} {c : Nat} (hc : x.length ≤ c) (h : IntsF F w Y x) : Slots F w [x] [.slice Y x.length c] := ⟨rfl, fun j v hv => by
  cases j with
  | zero =>
    obtain rfl : (.slice Y x.length c : Value) = v := by simpa using hv
    exact ⟨Y, c, rfl, hc, h⟩
  | succ j => simp at hv⟩
theorem Slots.append {F : Nat → Prop} {w : World} {ls ms : List (List Int)} {cells news : List Value} (h : Slots F w ls cells) (h' : Slots F w ms news) : Slots F w (ls ++ ms) (cells ++ news) := by
  refine ⟨by rw [List.length_append, List.length_append, h.len, h'.len], fun j v hv => ?_⟩
  by_cases hj : j < cells.length
  · rw [List.getElem?_append_left hj] at hv
    rw [rgt_left (by rw [← h.len]; exact hj)]
    exact h.cell j v hv
  · rw [List.getElem?_append_right (by omega)] at hv
    rw [rgt_right (by rw [← h.len]; omega), ← h.len]
    exact h'.cell _ v hv
theorem rgt_take {ls : List (List Int)} {m j : Nat} (h : j < m) : rgt (ls.take m) j = rgt ls j := by
  simp [rgt, List.getD_eq_getElem?_getD, List.getElem?_take, h]
theorem rgt_drop {ls : List (List Int)} {m j : Nat} : rgt (ls.drop m) j = rgt ls (m + j) := by
  simp [rgt, List.getD_eq_getElem?_getD, List.getElem?_drop]
theorem Slots.take {F : Nat → Prop} {w : World} {ls : List (List Int)} {cells : List Value} (h : Slots F w ls cells) (m : Nat) : Slots F w (ls.take m) (cells.take m) := by
  refine ⟨by rw [List.length_take, List.length_take, h.len], fun j v hv => ?_⟩
  rw [List.getElem?_take] at hv
  split at hv
  · rename_i hj
    rw [rgt_take hj]
    exact h.cell j v hv
  · cases hv
theorem Slots.drop {F : Nat → Prop} {w : World} {ls : List (List Int)} {cells : List Value} (h : Slots F w ls cells) (m : Nat) : Slots F w (ls.drop m) (cells.drop m) := by
  refine ⟨by rw [List.length_drop, List.length_drop, h.len], fun j v hv => ?_⟩
  rw [List.getElem?_drop] at hv
  rw [rgt_drop]
  exact h.cell _ v hv
theorem Slots.one {F : Nat → Prop} {w : World} {ls : List (List Int)} {cells : List Value} (h : Slots F w ls cells) : ∀ v ∈ cells, v.oneCell' = true := fun v hv => by
  obtain ⟨j, hj⟩ := List.getElem?_of_mem hv
  obtain ⟨Y, c, rfl, _⟩ := h.cell j v hj
  rfl
/-- A slice of slices that is read, its blocks are such. -/
structure IssF (F : Nat → Prop) (w : World) (X : Option Addr) (ls : List (List Int)) : Prop where
  le : ls.length ≤ 9223372036854775807
  ptr : 0 < ls.length → X = some (ad X)
  foot : 0 < ls.length → F (ad X).block
  row : ∀ j, j < ls.length → ∃ Y c, w.cell? ((ad X).add j) = some (.slice Y (rgt ls j).length c) ∧ (rgt ls j).length ≤ c ∧ IntsF F w Y (rgt ls j)
section
variable {F : Nat → Prop} {w w' : World} {X : Option Addr} {ls : List (List Int)}
theorem IssF.is (h : IssF F w X ls) : Intss w X ls := ⟨h.le, h.ptr, fun j hj => by
  obtain ⟨Y, c, h1, h2, h3⟩ := h.row j hj
  exact ⟨Y, c, h1, h2, h3.is⟩⟩
theorem IssF.gr (h : IssF F w X ls) (g : Gr w w') : IssF F w' X ls := ⟨h.le, h.ptr, h.foot, fun j hj => by
  obtain ⟨Y, c, h1, h2, h3⟩ := h.row j hj
  exact ⟨Y, c, g.cell h1, h2, h3.gr g⟩⟩
theorem IssF.mono {E : Nat → Prop} (h : IssF F w X ls) (he : ∀ b, F b → E b) : IssF E w X ls := ⟨h.le, h.ptr, fun hp => he _ (h.foot hp), fun j hj => by
  obtain ⟨Y, c, h1, h2, h3⟩ := h.row j hj
  exact ⟨Y, c, h1, h2, h3.mono he⟩⟩
theorem cell_lt {a : Addr} {v : Value} (h : w.cell? a = some v) : a.block < w.heap.size := by
  unfold World.cell? at h
  cases hb : w.heap[a.block]? with
  | none => rw [hb] at h; cases h
  | some _ => exact (Array.getElem?_eq_some_iff.1 hb).1
theorem IntsF.lt {xs : List Int} (h : IntsF F w X xs) : IntsF (fun b => F b ∧ b < w.heap.size) w X xs := ⟨h.is, fun hp => ⟨h.foot hp, by
  have := cell_lt (h.is.cell 0 hp)
  rwa [add_block] at this⟩⟩
/-- Its blocks are there. -/
theorem IssF.lt (h : IssF F w X ls) : IssF (fun b => F b ∧ b < w.heap.size) w X ls := ⟨h.le, h.ptr, fun hp => ⟨h.foot hp, by
  obtain ⟨Y, c, h1, _⟩ := h.row 0 hp
  have := cell_lt h1
  rwa [add_block] at this⟩, fun j hj => by
  obtain ⟨Y, c, h1, h2, h3⟩ := h.row j hj
  exact ⟨Y, c, h1, h2, h3.lt⟩⟩
theorem cell_same {a : Addr} {v : Value} (h : w.cell? a = some v) (hs : w'.heap[a.block]? = w.heap[a.block]?) : w'.cell? a = some v := by
  unfold World.cell? at h ⊢
  rw [hs]
  exact h
theorem IntsF.same {xs : List Int} (h : IntsF F w X xs) (hs : ∀ q, F q → w'.heap[q]? = w.heap[q]?) : IntsF F w' X xs :=
  ⟨⟨h.is.le, h.is.ptr, fun j hj => cell_same (h.is.cell j hj) (hs _ (by rw [add_block]; exact h.foot (by omega)))⟩, h.foot⟩
theorem IssF.same (h : IssF F w X ls) (hs : ∀ q, F q → w'.heap[q]? = w.heap[q]?) : IssF F w' X ls := ⟨h.le, h.ptr, h.foot, fun j hj => by
  obtain ⟨Y, c, h1, h2, h3⟩ := h.row j hj
  exact ⟨Y, c, cell_same h1 (hs _ (by rw [add_block]; exact h.foot (by omega))), h2, h3.same hs⟩⟩
theorem IssF.cells (h : IssF F w X ls) : ∃ cells, Src w X cells ∧ Slots F w ls cells := by
  have key : ∀ n, n ≤ ls.length → ∃ cells : List Value, cells.length = n ∧ ∀ (j : Nat) (v : Value), cells[j]? = some v → w.cell? ((ad X).add j) = some v ∧ ∃ Y c, v = .slice Y (rgt ls j).length c ∧ (rgt ls j).length ≤ c ∧ IntsF F w Y (rgt ls j) := by
    intro n
    induction n with
    | zero => exact fun _ => ⟨[], rfl, fun j v hv => by simp at hv⟩
    | succ n ih =>
      intro hn
      obtain ⟨cells, h1, h2⟩ := ih (by omega)
      obtain ⟨Y, c, h3, h4, h5⟩ := h.row n (by omega)
      refine ⟨cells ++ [.slice Y (rgt ls n).length c], by simp [h1], fun j v hv => ?_⟩
      by_cases hj : j < n
      · rw [List.getElem?_append_left (by omega)] at hv
        exact h2 j v hv
      · rw [List.getElem?_append_right (by omega), h1] at hv
        have hlt := (List.getElem?_eq_some_iff.1 hv).1
        obtain rfl : j = n := by simp at hlt; omega
        obtain rfl : (.slice Y (rgt ls j).length c : Value) = v := by simpa using hv
        exact ⟨h3, Y, c, rfl, h4, h5⟩
  obtain ⟨cells, h1, h2⟩ := key ls.length (Nat.le_refl _)
  refine ⟨cells, ⟨fun hne => h.ptr ?_, fun j u hu => (h2 j u hu).1⟩, h1, fun j v hv => (h2 j v hv).2⟩
  cases cells with
  | nil => exact absurd rfl hne
  | cons v cells => rw [← h1]; simp
theorem IssF.of {cells : List Value} (hs : Src w X cells) (h : Slots F w ls cells) (hl : ls.length ≤ 9223372036854775807) (hf : 0 < ls.length → F (ad X).block) : IssF F w X ls := by
  refine ⟨hl, fun hp => hs.ptr fun e => ?_, hf, fun j hj => ?_⟩
  · have := h.len
    rw [e] at this
    simp at this
    omega
  · have hlt : j < cells.length := by rw [h.len]; exact hj
    obtain ⟨Y, c, h1, h2, h3⟩ := h.cell j _ (List.getElem?_eq_getElem hlt)
    refine ⟨Y, c, ?_, h2, h3⟩
    rw [← h1]
    exact hs.cell j _ (List.getElem?_eq_getElem hlt)
theorem IssF.nil (F : Nat → Prop) (w : World) : IssF F w none [] := IssF.of (Src.nil w none) (Slots.nil F w) (by simp) fun h => by simp at h
end
theorem IntsF.nil (F : Nat → Prop) (w : World) : IntsF F w none [] := ⟨⟨by simp, fun h => by simp at h, fun j hj => by simp at hj⟩, fun h => by simp at h⟩
theorem OwnSS.readF {e1 e2 : Nat} {w : World} {B : Nat} {X : Option Addr} {c : Nat} {ls : List (List Int)} {ps : Nat → Option Addr × Nat} (h : OwnSS e1 e2 w B X c ls ps) : IssF (fun q => B ≤ q) w X ls := by
  obtain ⟨⟨cells, hr, hc⟩, ho, ht⟩ := h
  have hcap := hr.cap
  refine ⟨by omega, fun hp => hr.ptr hp, fun hp => ?_, fun j hj => ?_⟩
  · have := hr.ptr hp
    exact (hr.ge (q := (ad X).block) (by rw [this]; rfl)).1
  · have hc' := Row.cap (ho j hj)
    exact ⟨(ps j).1, (ps j).2, hr.src.cell _ _ (hc j hj), by omega, (IntsF.of_own (ho j hj)).mono fun b hb => hb.1⟩
theorem row_foot {w : World} {B e sz n c : Nat} {X : Option Addr} {cells : List Value} (h : Row w B e sz X n c cells) (hn : 0 < n) : B ≤ (ad X).block := by
  have := h.ptr hn
  exact (h.ge (q := (ad X).block) (by rw [this]; rfl)).1
structure InsAt (ls : List (List Int)) (x : List Int) (m : Nat) : Prop where
  le : m ≤ ls.length
  more : ∀ j, m ≤ j → j < ls.length → ltL x (rgt ls j)
  less : 0 < m → ¬ ltL x (rgt ls (m - 1))
end Go.Sh
namespace Go.Proofs.Ytegcjkhebecgbaa
open Go Go.Sh Go.RowKit
end Go.Proofs.Ytegcjkhebecgbaa

/- Parts of a row one after the other: the plain law. -/
set_option linter.unusedVariables false
set_option linter.unusedSimpArgs false
set_option maxRecDepth 100000
namespace Go.Sh
open Go
theorem Firsts.none {M : Nat} {S : List Int → Prop} (h : Firsts M S []) (hM : 0 < M) (x : List Int) : ¬ S x := fun hx => by
  rcases h.all x hx with h1 | ⟨h1, _⟩
  · simp at h1
  · simp at h1
    omega
theorem Firsts.single {M : Nat} (hM : 0 < M) (x : List Int) : Firsts M (fun z => z = x) [x] :=
  ⟨List.pairwise_singleton _ _, fun y hy => by simpa using hy, by simp; omega, fun y hy => .inl (by simp [show y = x from hy])⟩
theorem Under.mono {M : Nat} {S S' : List Int → Prop} {x : List Int} (h : Under M S x) (hs : ∀ y, S y → S' y) : Under M S' x := by
  obtain ⟨ys, h1, h2, h3⟩ := h
  exact ⟨ys, h1, h2, fun y hy => ⟨hs y (h3 y hy).1, (h3 y hy).2⟩⟩
/-- What the first a of F make with R, and the next one with the first b of R. -/
def partL (F R : List (List Int)) (a b : Nat) : List (List Int) := prodL (F.take a) R ++ (R.take b).map (rgt F a ++ ·)
theorem partL_zero (F R : List (List Int)) : partL F R 0 0 = [] := by simp [partL, prodL]
theorem partL_step {F R : List (List Int)} {a b : Nat} (hb : b < R.length) : partL F R a (b + 1) = partL F R a b ++ [rgt F a ++ rgt R b] := by
  unfold partL
  rw [take_snoc_rgt hb, List.map_append, List.append_assoc]
  rfl
theorem partL_row {F R : List (List Int)} {a b : Nat} (ha : a < F.length) (hb : R.length ≤ b) : partL F R a b = partL F R (a + 1) 0 := by
  unfold partL prodL
  rw [take_snoc_rgt ha, List.flatMap_append, List.take_of_length_le hb]
  simp
theorem partL_done {F R : List (List Int)} {a : Nat} (ha : F.length ≤ a) : partL F R a 0 = prodL F R := by
  unfold partL
  rw [List.take_of_length_le ha]
  simp
/-- All of a part has come. -/
theorem Firsts.part {M : Nat} {S A B : List Int → Prop} {F R ls : List (List Int)} (hA : PreFree A) (hF : Firsts M A F) (hR : Firsts M B R) (h : Firsts M (fun z => S z ∨ z ∈ prodL F R) ls) : Firsts M (fun z => S z ∨ ProdS A B z) ls := by
  refine h.more (fun z hz => ?_) fun z hz => ?_
  · rcases hz with hz | hz
    · exact .inl hz
    · obtain ⟨a, b, ha, hb, rfl⟩ := mem_prodL.1 hz
      exact .inr ⟨a, b, hF.mem a ha, hR.mem b hb, rfl⟩
  · rcases hz with hz | hz
    · exact .inl (.inl hz)
    · rcases prod_under hA hF hR hz with h1 | h1
      · exact .inl (.inr h1)
      · exact .inr (h1.mono fun y hy => .inr hy)
section
variable {rs : List RuleL} {ws : List Int}
/-- The first tree of none: nothing. -/
theorem partD_none {x : Int} {xs : List Int} {i j s m k : Nat} (h : ∀ t, ¬ Der rs ws (.inr xs) m j (s - k) t) (t : List Int) : ¬ PartD rs ws x xs i j s m k t := by
  rintro ⟨a, b, _, h2, _⟩
  exact h b h2
theorem der_row0 {i j s M : Nat} (hM : 0 < M) (h : i = j ∧ s = 0) : Firsts M (Der rs ws (.inr []) i j s) [[]] :=
  (Firsts.single hM []).congr fun x => by rw [der_nil]; exact ⟨fun h' => h'.2.2, fun e => ⟨h.1, h.2, e⟩⟩
end
end Go.Sh

/- Bk: bodies of functions as terms of the frame calculus, printed by shgen.py of this repository. -/
set_option linter.unusedVariables false
set_option maxRecDepth 100000
namespace Go.Proofs.Ytegcjkhebecgbaa
open Go Go.Sh

/-! loop.example/g00758/spec.l10Sized -/
/-! loop.example/g00758/spec.l10Cap -/
/-! loop.example/g00758/spec.l10Row -/
end Go.Proofs.Ytegcjkhebecgbaa

/- Contract: in how many ways symbols have trees of a size (the reference's l10Row). -/
set_option linter.unusedVariables false
set_option linter.unusedSimpArgs false
set_option maxRecDepth 100000
namespace Go.Sh
open Go
/-- A table of counts in memory: nonterminal, from and to, size. -/
structure TabR (w : World) (X : Option Addr) (nons n m : Nat) (t : Nat → Nat → Nat → Nat → Nat) : Prop where
  ptr : 0 < nons → X = some (ad X)
  row : ∀ A, A < nons → ∃ Y c, w.cell? ((ad X).add A) = some (.slice Y (n * n) c) ∧ Y = some (ad Y) ∧ ∀ i j, i < n → j < n → ∃ Z z, w.cell? ((ad Y).add (i * n + j)) = some (.slice Z (m + 1) z) ∧ Z = some (ad Z) ∧ ∀ k, k ≤ m → w.cell? ((ad Z).add k) = some (.int .i64 (t A i j k))
theorem TabR.gr {w w' : World} {X : Option Addr} {nons n m : Nat} {t : Nat → Nat → Nat → Nat → Nat} (h : TabR w X nons n m t) (g : Gr w w') : TabR w' X nons n m t := ⟨h.ptr, fun A hA => by
  obtain ⟨Y, c, h1, h2, h3⟩ := h.row A hA
  refine ⟨Y, c, g.cell h1, h2, fun i j hi hj => ?_⟩
  obtain ⟨Z, z, h4, h5, h6⟩ := h3 i j hi hj
  exact ⟨Z, z, g.cell h4, h5, fun k hk => g.cell (h6 k hk)⟩⟩
end Go.Sh
namespace Go.Proofs.Ytegcjkhebecgbaa
open Go Go.Sh Go.RowKit
end Go.Proofs.Ytegcjkhebecgbaa

/- A family of slices of numbers that are owned (their heads lie elsewhere). -/
set_option linter.unusedVariables false
set_option linter.unusedSimpArgs false
set_option maxRecDepth 100000
namespace Go.Sh
open Go
structure Fam (e : Nat) (w : World) (B : Nat) (ls : List (List Int)) (ps : Nat → Option Addr × Nat) : Prop where
  own : ∀ j, j < ls.length → Own e w B (ps j).1 (ps j).2 (rgt ls j)
  two : ∀ i j, i < ls.length → j < ls.length → i ≠ j → blk (ps i).1 = none ∨ blk (ps i).1 ≠ blk (ps j).1
def FootL (ps : Nat → Option Addr × Nat) (n q : Nat) : Prop := ∃ l, l < n ∧ blk (ps l).1 = some q
section
variable {e B B' : Nat} {w w' w0 : World} {ls : List (List Int)} {ps : Nat → Option Addr × Nat} {L : List Thing}
theorem Fam.same (h : Fam e w B ls ps) (hs : ∀ q, FootL ps ls.length q → w'.heap[q]? = w.heap[q]?) : Fam e w' B ls ps :=
  ⟨fun j hj => Row.same (h.own j hj) fun q hq => hs q ⟨j, hj, hq⟩, h.two⟩
theorem Fam.up (h : Fam e w B ls ps) (hs : ∀ q, FootL ps ls.length q → B' ≤ q) : Fam e w B' ls ps :=
  ⟨fun j hj => Row.up (h.own j hj) fun q hq => hs q ⟨j, hj, hq⟩, h.two⟩
theorem Fam.mono (h : Fam e w B ls ps) (hb : B' ≤ B) : Fam e w B' ls ps := ⟨fun j hj => Row.mono (h.own j hj) hb, h.two⟩
theorem Fam.foot (h : Fam e w B ls ps) {q : Nat} (hq : FootL ps ls.length q) : B ≤ q ∧ q < w.heap.size := by
  obtain ⟨l, hl, hq⟩ := hq
  exact Row.ge (h.own l hl) hq
end
end Go.Sh
namespace Go.Proofs.Ytegcjkhebecgbaa
open Go Go.Sh Go.RowKit
end Go.Proofs.Ytegcjkhebecgbaa

/- A table of counts: heads and leaves. -/
set_option linter.unusedVariables false
set_option linter.unusedSimpArgs false
set_option maxRecDepth 100000
namespace Go.Sh
open Go
/-- Where a leaf of a table stands. -/
def idxT (n A i j : Nat) : Nat := A * (n * n) + (i * n + j)
theorem idxT_lt {nons n A i j : Nat} (hA : A < nons) (hi : i < n) (hj : j < n) : idxT n A i j < nons * (n * n) := by
  have h1 := place_lt hi hj
  have h2 : (A + 1) * (n * n) ≤ nons * (n * n) := Nat.mul_le_mul_right _ hA
  rw [Nat.add_mul] at h2
  unfold idxT
  omega
theorem idxT_inj {n A i j A' i' j' : Nat} (hi : i < n) (hj : j < n) (hi' : i' < n) (hj' : j' < n) (h : idxT n A i j = idxT n A' i' j') : A = A' ∧ i = i' ∧ j = j' := by
  have h1 := place_lt hi hj
  have h2 := place_lt hi' hj'
  have hn : 0 < n := by omega
  have hnn : 0 < n * n := Nat.mul_pos hn hn
  unfold idxT at h
  have e1 : A = A' := by
    have := congrArg (· / (n * n)) h
    simp only [Nat.mul_comm _ (n * n), Nat.mul_add_div hnn, Nat.div_eq_of_lt h1, Nat.div_eq_of_lt h2, Nat.add_zero] at this
    exact this
  subst e1
  have h3 : i * n + j = i' * n + j' := by omega
  have e2 : i = i' := by
    have := congrArg (· / n) h3
    simp only [Nat.mul_comm _ n, Nat.mul_add_div hn, Nat.div_eq_of_lt hj, Nat.div_eq_of_lt hj', Nat.add_zero] at this
    exact this
  subst e2
  exact ⟨rfl, rfl, by omega⟩
theorem rgt_put {ls : List (List Int)} {i j : Nat} {l : List Int} (hi : i < ls.length) : rgt (ls.set i l) j = if j = i then l else rgt ls j := by
  simp only [rgt, List.getD_eq_getElem?_getD, List.getElem?_set]
  by_cases hij : i = j
  · subst hij
    simp [hi]
  · rw [if_neg hij, if_neg (fun e => hij e.symm)]
theorem getD_put {l : List Int} {i j : Nat} {x : Int} (hi : i < l.length) : (l.set i x).getD j 0 = if j = i then x else l.getD j 0 := by
  simp only [List.getD_eq_getElem?_getD, List.getElem?_set]
  by_cases hij : i = j
  · subst hij
    simp [hi]
  · rw [if_neg hij, if_neg (fun e => hij e.symm)]
structure LeafT (ls : List (List Int)) (nons n m : Nat) (t : Nat → Nat → Nat → Nat → Nat) : Prop where
  len : ls.length = nons * (n * n)
  row : ∀ A i j, A < nons → i < n → j < n → (rgt ls (idxT n A i j)).length = m + 1
  val : ∀ A i j k, A < nons → i < n → j < n → k ≤ m → (rgt ls (idxT n A i j)).getD k 0 = (t A i j k : Int)
theorem LeafT.congr {ls : List (List Int)} {nons n m : Nat} {t t' : Nat → Nat → Nat → Nat → Nat} (h : LeafT ls nons n m t) (he : ∀ A i j k, A < nons → i < n → j < n → k ≤ m → t' A i j k = t A i j k) : LeafT ls nons n m t' :=
  ⟨h.len, h.row, fun A i j k hA hi hj hk => by rw [h.val A i j k hA hi hj hk, he A i j k hA hi hj hk]⟩
theorem LeafT.put {ls : List (List Int)} {nons n m : Nat} {t t' : Nat → Nat → Nat → Nat → Nat} (h : LeafT ls nons n m t) {A i j k v : Nat} (hA : A < nons) (hi : i < n) (hj : j < n) (hk : k ≤ m) (h1 : t' A i j k = v)
    (h2 : ∀ A' i' j' k', A' < nons → i' < n → j' < n → k' ≤ m → ¬ (A' = A ∧ i' = i ∧ j' = j ∧ k' = k) → t' A' i' j' k' = t A' i' j' k') : LeafT (ls.set (idxT n A i j) ((rgt ls (idxT n A i j)).set k (v : Int))) nons n m t' := by
  have hlt : idxT n A i j < ls.length := by rw [h.len]; exact idxT_lt hA hi hj
  refine ⟨by rw [List.length_set]; exact h.len, fun A' i' j' hA' hi' hj' => ?_, fun A' i' j' k' hA' hi' hj' hk' => ?_⟩
  · rw [rgt_put hlt]
    split
    · rw [List.length_set]; exact h.row A i j hA hi hj
    · exact h.row A' i' j' hA' hi' hj'
  · rw [rgt_put hlt]
    split
    · rename_i he
      obtain ⟨rfl, rfl, rfl⟩ := idxT_inj hi' hj' hi hj he
      rw [getD_put (by rw [h.row _ _ _ hA hi hj]; omega)]
      split
      · rename_i hkk
        subst hkk
        rw [h1]
      · rename_i hkk
        rw [h.val _ _ _ _ hA hi hj hk', h2 _ _ _ _ hA hi hj hk' (fun hh => hkk hh.2.2.2)]
    · rename_i he
      rw [h.val _ _ _ _ hA' hi' hj' hk', h2 _ _ _ _ hA' hi' hj' hk' (fun hh => he (by rw [hh.1, hh.2.1, hh.2.2.1]))]
structure HeadT (hs : List (List Value)) (ps : Nat → Option Addr × Nat) (nons n m : Nat) : Prop where
  len : hs.length = nons
  row : ∀ A, A < nons → (vls hs A).length = n * n
  val : ∀ A p, A < nons → p < n * n → (vls hs A)[p]? = some (.slice (ps (A * (n * n) + p)).1 (m + 1) (ps (A * (n * n) + p)).2)
section
variable {e e1 e2 nons n m c B1 B2 : Nat} {w : World} {X : Option Addr} {hs : List (List Value)} {hp ps : Nat → Option Addr × Nat} {ls : List (List Int)} {t : Nat → Nat → Nat → Nat → Nat}
end
end Go.Sh

/- Contract: the reference's numbers of trees of all sizes (l10Sized). -/
set_option linter.unusedVariables false
set_option linter.unusedSimpArgs false
set_option maxRecDepth 100000
namespace Go.Sh
open Go
/-- Heads while they are laid: kk rows, c leaves. -/
structure HeadP (hs : List (List Value)) (ps : Nat → Option Addr × Nat) (nons nn m kk c : Nat) : Prop where
  len : hs.length = nons
  row : ∀ A, A < kk → (vls hs A).length = nn
  val : ∀ A p, A < kk → p < nn → A * nn + p < c → (vls hs A)[p]? = some (.slice (ps (A * nn + p)).1 (m + 1) (ps (A * nn + p)).2)
section
variable {P : Program} {k : Value → World → Prop} {w0 w : World} {L : List Thing}
end
end Go.Sh
namespace Go.Proofs.Ytegcjkhebecgbaa
open Go Go.Sh Go.RowKit
end Go.Proofs.Ytegcjkhebecgbaa

/- Contract: CountSized of the reference. -/
set_option linter.unusedVariables false
set_option linter.unusedSimpArgs false
set_option maxRecDepth 100000
namespace Go.Sh
open Go
def capM : Nat := 1000000000
end Go.Sh
namespace Go.Proofs.Ytegcjkhebecgbaa
open Go Go.Sh Go.RowKit
end Go.Proofs.Ytegcjkhebecgbaa

/- Contracts: trees of a size in order (the reference's l11Make). -/
set_option linter.unusedVariables false
set_option linter.unusedSimpArgs false
set_option maxRecDepth 100000
namespace Go.Sh
open Go
/-- What the reference's functions read. -/
structure EnvT (gm : Gram) (ws : List Int) (m nons bc : Nat) (Y : Option Addr) (cy : Nat) (X : Option Addr) (cx : Nat) (U : Option Addr) (cu : Nat) (w : World) : Prop where
  box : Box w bc [.int .i64 gm.nons, .int .i64 gm.toks, .slice Y gm.rules.length cy, .slice X ws.length cx, .slice U nons cu] 274
  hc : gm.rules.length ≤ cy
  hy : RulesF (fun _ => True) w Y gm.rules
  hX : Ints w X ws
  tab : TabR w U nons (ws.length + 1) m fun A i j k => min capM (cntC gm.rules ws A i j k)
theorem EnvT.gr {gm : Gram} {ws : List Int} {m nons bc cy cx cu : Nat} {Y X U : Option Addr} {w w' : World} (h : EnvT gm ws m nons bc Y cy X cx U cu w) (g : Gr w w') : EnvT gm ws m nons bc Y cy X cx U cu w' := ⟨h.box.gr g, h.hc, h.hy.gr g, h.hX.gr g, h.tab.gr g⟩
end Go.Sh
namespace Go.Proofs.Ytegcjkhebecgbaa
open Go Go.Sh Go.RowKit
section
variable {gm : Gram} {ws : List Int} {m nons bc cy cx cu : Nat} {Y X U : Option Addr}
end
end Go.Proofs.Ytegcjkhebecgbaa

/- slices.Insert and slices.Delete at []int: the library's contracts, laid over this program. -/
set_option linter.unusedVariables false
set_option linter.unusedSimpArgs false
set_option maxRecDepth 100000
namespace Go.Proofs.Ytegcjkhebecgbaa
open Go Go.Sh Go.RowKit Go.Shelf
end Go.Proofs.Ytegcjkhebecgbaa

/- slices.Delete and slices.Insert of one number, among things that lie apart. -/
set_option linter.unusedVariables false
set_option linter.unusedSimpArgs false
set_option maxRecDepth 100000
namespace Go.Sh
open Go
section
variable {w : World} {B e n c g : Nat} {X : Option Addr} {cells : List Value}
theorem Row.full (h : Row w B e 1 X n c cells) (hX : X ≠ none) : ∃ g tl, X = some ⟨g, 0, none⟩ ∧ tl.length = c - n ∧ n ≤ c ∧ c ≤ 9223372036854775807 ∧ Row w B e 1 X c c (cells ++ tl) := by
  rcases h.2 with h2 | ⟨g, cap, cur, e1, e2, e3, e4, e5, e6, e7⟩
  · simp only [Value.slice.injEq] at h2
    exact absurd h2.1.1 hX
  · simp only [Value.slice.injEq] at e1
    obtain ⟨rfl, _, rfl⟩ := e1
    have e6' : cur.toList.length = c := by simpa using e6
    refine ⟨g, cur.toList.drop n, rfl, by rw [List.length_drop]; omega, e4, by simpa [maxLen] using e5, ?_⟩
    have ec : cells ++ cur.toList.drop n = cur.toList := by rw [← e7, Nat.mul_one, List.take_append_drop]
    rw [ec]
    exact ⟨by omega, .inr ⟨g, c, cur, rfl, e2, e3, Nat.le_refl _, e5, e6, by rw [Nat.mul_one, List.take_of_length_le (by omega)]⟩⟩
theorem Row.cut (h : Row w B e 1 X n c cells) {m : Nat} (hm : m ≤ n) : Row w B e 1 X m c (cells.take m) := by
  have hl := h.1
  rcases h.2 with ⟨h2, h3⟩ | ⟨g, cap, cur, e1, e2, e3, e4, e5, e6, e7⟩
  · subst h3
    obtain rfl : m = 0 := by omega
    simp only [Value.slice.injEq] at h2
    obtain ⟨rfl, _, rfl⟩ := h2
    exact Row.nil _ _ _ _
  · simp only [Value.slice.injEq] at e1
    obtain ⟨rfl, _, rfl⟩ := e1
    refine ⟨by rw [List.length_take]; omega, .inr ⟨g, c, cur, rfl, e2, e3, by omega, e5, e6, ?_⟩⟩
    rw [← e7, Nat.mul_one, Nat.mul_one, List.take_take, Nat.min_eq_left hm]
theorem Row.put {d xs : List Int} (h : Row w B e 1 (some ⟨g, 0, none⟩) n c (ints xs)) (hd : d.length = n) : Row (Sort.putRow (.int .i64) w g 0 d.toArray) B e 1 (some ⟨g, 0, none⟩) n c (ints d) ∧ w.grownBy (Sort.putRow (.int .i64) w g 0 d.toArray) (some g) := by
  rcases h.2 with h2 | ⟨g', cap, cur, e1, e2, e3, e4, e5, e6, e7⟩
  · simp at h2
  · simp only [Value.slice.injEq, Option.some.injEq, Addr.mk.injEq, and_true, true_and] at e1
    obtain ⟨rfl, rfl⟩ := e1
    have e6' : cur.size = c := by simpa using e6
    refine ⟨⟨by rw [ints_length]; omega, .inr ⟨g, c, Sort.putCells (.int .i64) 0 d.toArray cur, rfl, e2, ?_, e4, e5, ?_, ?_⟩⟩, ⟨rfl, rfl, rfl, ?_, fun k hk hn => ?_⟩⟩
    · simp only [Sort.putRow, Sort.mapBlock, Array.getElem?_modify, if_true, e3, Option.map_some, Sort.onCells]
    · simp [Sort.putCells, e6']
    · apply List.ext_getElem?
      intro j
      rw [Nat.mul_one, List.getElem?_take]
      by_cases hj : j < n
      · rw [if_pos hj, Array.getElem?_toList]
        simp only [Sort.putCells, Array.getElem?_mapIdx]
        have hc : j < cur.size := by omega
        rw [Array.getElem?_eq_getElem hc]
        simp [ints, hd, hj]
      · rw [if_neg hj, List.getElem?_eq_none (by rw [ints_length]; omega)]
    · simp [Sort.putRow, Sort.mapBlock]
    · simp only [Sort.putRow, Sort.mapBlock, Array.getElem?_modify]
      rw [if_neg (fun e => hn (by rw [e]))]
theorem Row.holds {xs : List Int} (h : Row w B e 1 (some ⟨g, 0, none⟩) n c (ints xs)) : Sort.Holds (.int .i64) w g 0 xs.toArray := by
  rcases h.2 with h2 | ⟨g', cap, cur, e1, e2, e3, e4, e5, e6, e7⟩
  · simp at h2
  · simp only [Value.slice.injEq, Option.some.injEq, Addr.mk.injEq, and_true, true_and] at e1
    obtain ⟨rfl, rfl⟩ := e1
    intro j hj
    have hj' : j < xs.length := by simpa using hj
    refine ⟨?_, ?_⟩
    · have := h.src.cell j (.int .i64 xs[j]) (by simp [ints, hj'])
      rw [show (ad (some (⟨g, 0, none⟩ : Addr))).add j = ⟨g, 0 + j, none⟩ from by show (⟨g, 0, none⟩ : Addr).add j = _; rw [zq34]] at this
      rw [this]
      simp [hj']
    · simp only [World.frozen?, e3]
      simp
theorem Row.facts (h : Row w B e 1 (some ⟨g, 0, none⟩) n c cells) : (∀ (j : Nat) (v : Value), cells[j]? = some v → w.cell? ⟨g, 0 + j, none⟩ = some v) ∧ (∀ j : Nat, w.frozen? ⟨g, j, none⟩ = false) ∧ w.shape? g = some (e, c) := by
  refine ⟨fun j v hv => ?_, ?_⟩
  · have := h.src.cell j v hv
    rwa [show (ad (some (⟨g, 0, none⟩ : Addr))).add j = ⟨g, 0 + j, none⟩ from by show (⟨g, 0, none⟩ : Addr).add j = _; rw [zq34]] at this
  · rcases h.2 with h2 | ⟨g', cap, cur, e1, e2, e3, e4, e5, e6, e7⟩
    · simp at h2
    · simp only [Value.slice.injEq, Option.some.injEq, Addr.mk.injEq, and_true, true_and] at e1
      obtain ⟨rfl, rfl⟩ := e1
      refine ⟨fun j => ?_, ?_⟩
      · simp only [World.frozen?, e3]
        simp
      · simp only [World.shape?, e3]
        rw [show cur.size = c from by simpa using e6]
end
end Go.Sh
namespace Go.Proofs.Ytegcjkhebecgbaa
open Go Go.Sh Go.RowKit Go.Shelf
section
variable {k : Value → World → Prop} {w0 w : World} {L : List Thing}
end
end Go.Proofs.Ytegcjkhebecgbaa

/- Contract: trees of a nonterminal in order (the reference's l11Make.trees). -/
set_option linter.unusedVariables false
set_option linter.unusedSimpArgs false
set_option maxRecDepth 100000
namespace Go.Sh
open Go
theorem sub_own {w : World} {B e n c sz : Nat} {X : Option Addr} {cells : List Value} (h : Row w B e sz X n c cells) : sub X 0 c 1 = X := by
  unfold Sh.sub
  split
  · rfl
  · rcases h.at_ with ⟨rfl, _⟩ | ⟨g, rfl, _⟩
    · rfl
    · simp [zq34]
theorem OwnSS.cut {e1 e2 : Nat} {w : World} {B c m : Nat} {X : Option Addr} {ls : List (List Int)} {ps : Nat → Option Addr × Nat} (h : OwnSS e1 e2 w B X c ls ps) (hm : m ≤ ls.length) : OwnSS e1 e2 w B X c (ls.take m) ps := by
  obtain ⟨⟨cells, hr, hc⟩, ho, ht⟩ := h
  have hl : (ls.take m).length = m := by rw [List.length_take]; omega
  refine ⟨⟨cells.take m, ?_, fun j hj => ?_⟩, fun j hj => ?_, fun a b ha hb hab => ?_⟩
  · rw [hl]
    exact hr.cut hm
  · rw [hl] at hj
    rw [List.getElem?_take, if_pos hj, rgt_take hj]
    exact hc j (by omega)
  · rw [hl] at hj
    rw [rgt_take hj]
    exact ho j (by omega)
  · rw [hl] at ha hb
    exact ht a b (by omega) (by omega) hab
theorem OwnSS.sub0 {e1 e2 : Nat} {w : World} {B c : Nat} {X : Option Addr} {ls : List (List Int)} {ps : Nat → Option Addr × Nat} (h : OwnSS e1 e2 w B X c ls ps) : sub X 0 c 1 = X := by
  obtain ⟨⟨cells, hr, hc⟩, ho, ht⟩ := h
  exact sub_own hr
theorem OwnSS.cap {e1 e2 : Nat} {w : World} {B c : Nat} {X : Option Addr} {ls : List (List Int)} {ps : Nat → Option Addr × Nat} (h : OwnSS e1 e2 w B X c ls ps) : ls.length ≤ c := by
  obtain ⟨⟨cells, hr, hc⟩, ho, ht⟩ := h
  exact (Row.cap hr).1
end Go.Sh
namespace Go.Proofs.Ytegcjkhebecgbaa
open Go Go.Sh Go.RowKit
section
variable {gm : Gram} {ws : List Int} {m nons bc cy cx cu : Nat} {Y X U : Option Addr}
end
end Go.Proofs.Ytegcjkhebecgbaa

/- A map as memory, among things that lie apart: every entry is right. -/
set_option linter.unusedVariables false
set_option linter.unusedSimpArgs false
set_option maxRecDepth 100000
namespace Go.Sh
open Go Go.WideMaps
/-- A map's block; every entry is right. -/
def mpi (Good : Value → Value → Prop) (b : Nat) : Thing := ⟨fun w => ∃ es clock, w.heap[b]? = some (.map es clock) ∧ ∀ e ∈ es.toList, Good e.key e.val, fun q => q = b⟩
section
variable {P : Program} {k : Value → World → Prop} {w0 w : World} {L : List Thing} {Good : Value → Value → Prop}
end
end Go.Sh
namespace Go.Proofs.Ytegcjkhebecgbaa
open Go Go.Sh Go.RowKit Go.WideMaps
theorem arr257 : ArrKey Try.prog 257 3 5 := ⟨by kernel_rfl, by kernel_rfl, by kernel_rfl, by kernel_rfl⟩
theorem wf64 {n : Int} (h : -9223372036854775808 ≤ n ∧ n ≤ 9223372036854775807) : (Lit.int .i64 n).wf = true := by
  simp [Lit.wf, show IntKind.i64.min = -9223372036854775808 from rfl, show IntKind.i64.max = 9223372036854775807 from rfl]
  omega
theorem formed257 (a b c d e : Int) : (Value.agg #[.int .i64 a, .int .i64 b, .int .i64 c, .int .i64 d, .int .i64 e]).formed Try.prog 257 = true := by
  kernel_rfl
theorem lits257 {a b c d e : Int} (ha : (Lit.int .i64 a).wf = true) (hb : (Lit.int .i64 b).wf = true) (hc : (Lit.int .i64 c).wf = true) (hd : (Lit.int .i64 d).wf = true) (he : (Lit.int .i64 e).wf = true) (m : Nat) :
    Program.keyLits Try.prog (m + 2) 257 [.int .i64 a, .int .i64 b, .int .i64 c, .int .i64 d, .int .i64 e] = some [.int .i64 a, .int .i64 b, .int .i64 c, .int .i64 d, .int .i64 e] := by
  have h1 : ∀ {x : Int}, (Lit.int .i64 x).wf = true → Program.keyLits Try.prog (m + 1) 3 [.int .i64 x] = some [.int .i64 x] := fun hx => by
    simp only [Program.keyLits, Try.underlying3, hx, and_self, if_true]
  have hu : Try.prog.underlying 257 = some (.array 5 3) := by kernel_rfl
  have e1 : Try.prog.cellsOf 3 = 1 := by kernel_rfl
  have e5 : Try.prog.cellsOf 257 = 5 := by kernel_rfl
  have hr : List.range 5 = [0, 1, 2, 3, 4] := by decide
  simp [Program.keyLits, hu, e1, e5, hr, h1 ha, h1 hb, h1 hc, h1 hd, h1 he, ha, hb, hc, hd, he]
theorem key257 {a b c d e : Int} (ha : (Lit.int .i64 a).wf = true) (hb : (Lit.int .i64 b).wf = true) (hc : (Lit.int .i64 c).wf = true) (hd : (Lit.int .i64 d).wf = true) (he : (Lit.int .i64 e).wf = true) :
    ∃ l, keyOf Try.prog 257 (.agg #[.int .i64 a, .int .i64 b, .int .i64 c, .int .i64 d, .int .i64 e]) = some l := by
  have hu : Try.prog.underlying 257 = some (.array 5 3) := by kernel_rfl
  have hk : Try.prog.keyType 257 = true := by kernel_rfl
  obtain ⟨m, hm⟩ : ∃ m, Try.prog.types.size + 1 = m + 2 := ⟨Try.prog.types.size - 1, by kernel_rfl⟩
  refine ⟨.string (keyBytes [.int .i64 a, .int .i64 b, .int .i64 c, .int .i64 d, .int .i64 e]), ?_⟩
  unfold keyOf
  rw [hu]
  dsimp only
  rw [hk, formed257, hm]
  show Option.map _ (Program.keyLits Try.prog (m + 2) 257 [.int .i64 a, .int .i64 b, .int .i64 c, .int .i64 d, .int .i64 e]) = _
  rw [lits257 ha hb hc hd he m]
  rfl
end Go.Proofs.Ytegcjkhebecgbaa

/- Contracts: sums and products kept at most one more than is told (the program's plus, times). -/
set_option linter.unusedVariables false
set_option linter.unusedSimpArgs false
set_option maxRecDepth 100000
namespace Go.Proofs.Ytegcjkhebecgbaa
open Go Go.Sh Go.RowKit
end Go.Proofs.Ytegcjkhebecgbaa

/- Contract: the program's numbers of trees by size (trees, rest). -/
set_option linter.unusedVariables false
set_option linter.unusedSimpArgs false
set_option maxRecDepth 100000
namespace Go.Sh
open Go
def keyV (a b c d : Nat) : Value := .agg #[.int .i64 (a : Int), .int .i64 (b : Int), .int .i64 (c : Int), .int .i64 (d : Int), .int .i64 0]
theorem keyV_inj {a b c d a' b' c' d' : Nat} (h : keyV a b c d = keyV a' b' c' d') : a = a' ∧ b = b' ∧ c = c' ∧ d = d' := by
  simp only [keyV, Value.agg.injEq, Array.mk.injEq, List.cons.injEq, Value.int.injEq, true_and, and_true, Int.natCast_inj] at h
  exact h
/-- What the memory holds. -/
def GoodC (M : Nat) (rs : List RuleL) (ws : List Int) (key v : Value) : Prop :=
  ∃ q p i j s : Nat, q ≤ 16 ∧ p ≤ 4 ∧ i ≤ 10 ∧ j ≤ 10 ∧ s ≤ 20 ∧ key = keyV (q * 5 + p) i j s ∧ v = .int .i64 ((min M (cntR (cntC rs ws) ws ((rul rs q).2.drop p) i j s) : Nat) : Int)
theorem GoodC.get {M : Nat} {rs : List RuleL} {ws : List Int} {q p i j s : Nat} {v : Value} (hp : p ≤ 4) (h : GoodC M rs ws (keyV (q * 5 + p) i j s) v) : v = .int .i64 ((min M (cntR (cntC rs ws) ws ((rul rs q).2.drop p) i j s) : Nat) : Int) := by
  obtain ⟨q', p', i', j', s', h1, h2, h3, h4, h5, h6, rfl⟩ := h
  obtain ⟨e1, rfl, rfl, rfl⟩ := keyV_inj h6
  obtain ⟨rfl, rfl⟩ : q = q' ∧ p = p' := by omega
  rfl
theorem rd_buildA {P : Program} {S : WS} {k : Value → Prop} {t e n sz by' : Nat} {z : Value} {qs : List (Nat × Value)} {cells : Array Value} {m : Nat} (ht : P.underlying t = some (.array n e)) (he : szOf P e m) (H : Inf P t z sz by') (hf : Instr.fill (fun i => some (i * m, m)) z.cells qs = some cells) : Rd P S (sBuild t qs) k = k (.agg cells) := rd_eq fun w _ => by
  obtain ⟨i, hi, hz, _, _⟩ := H
  have e0 : (zeroValue t).run P w = .ok z w := by simp [zeroValue, run_info hi, hz]
  simp only [sBuild, Instr.build, Sem.run_bind, e0, Result.andThen, run_underlying ht, run_size he, hf]
  rfl
end Go.Sh
namespace Go.Proofs.Ytegcjkhebecgbaa
open Go Go.Sh Go.RowKit Go.WideMaps
theorem inf257' : Inf Try.prog 257 (.agg #[.int .i64 0, .int .i64 0, .int .i64 0, .int .i64 0, .int .i64 0]) 5 40 := inf_of (by kernel_rfl)
theorem bd257 {S : WS} {k : Value → Prop} {a b c d : Int} : Rd Try.prog S (sBuild 257 [(0, .int .i64 a), (1, .int .i64 b), (2, .int .i64 c), (3, .int .i64 d)]) k = k (.agg #[.int .i64 a, .int .i64 b, .int .i64 c, .int .i64 d, .int .i64 0]) :=
  rd_buildA u257 sz3 inf257' rfl
theorem keyV_key {a b c d : Nat} (ha : a ≤ 1000) (hb : b ≤ 1000) (hc : c ≤ 1000) (hd : d ≤ 1000) : ∃ l, keyOf Try.prog 257 (keyV a b c d) = some l :=
  key257 (wf64 (by omega)) (wf64 (by omega)) (wf64 (by omega)) (wf64 (by omega)) (wf64 (by omega))
end Go.Proofs.Ytegcjkhebecgbaa

/- Contract: CountSized of the program. -/
set_option linter.unusedVariables false
set_option linter.unusedSimpArgs false
set_option maxRecDepth 100000
namespace Go.Sh
open Go
section
variable {P : Program} {k : Value → World → Prop} {w0 w : World} {L : List Thing} {Good : Value → Value → Prop}
theorem makeMapHG (H : Apt w0 w L) {t : TypeId} (h : ∀ b w', Gr w w' → Apt w0 w' (L ++ [mpi Good b]) → k (.map (some b)) w') : Do P (sMakeMap t) k w := by
  have e' : (sMakeMap t).run P w = .ok (.value (.map (some w.heap.size))) (w.alloc (.map #[] 0)) := by
    simp only [sMakeMap, Sem.run_bind, run_makeMap_plain]
    rfl
  rw [do_value e']
  refine h _ _ (gr_alloc w _) (H.add (gr_alloc w _) (mpi Good w.heap.size) (fun q hq => by cases hq; exact Nat.le_refl _) (fun q hq => by cases hq; exact (Array.getElem?_eq_some_iff.1 (heap_alloc_new w (.map #[] 0))).1) fun w'' hs => ⟨#[], 0, ?_, fun e he => by simp at he⟩)
  rw [hs _ rfl]
  exact heap_alloc_new w _
theorem boxHG (H : Apt w0 w L) {t : TypeId} {v : Value} (h : ∀ b w', Gr w w' → Apt w0 w' (L ++ [bx b v.cells.toList t]) → k (.pointer (some ⟨b, 0, none⟩)) w') : Do P (sBox t v) k w :=
  do_box fun b w' g hb hB => h b w' g (H.addBox g hb hB)
end
end Go.Sh
namespace Go.Proofs.Ytegcjkhebecgbaa
open Go Go.Sh Go.RowKit
end Go.Proofs.Ytegcjkhebecgbaa

/- The law of LongEnough, over its contracts. -/
set_option linter.unusedVariables false
set_option linter.unusedSimpArgs false
set_option maxRecDepth 100000
namespace Go.Sh
open Go
theorem longV_two (g : Gram) : ∃ n b, longV g = .tuple #[.int .i64 n, .bool b] := by
  unfold longV
  split
  · split
    · exact ⟨_, _, rfl⟩
    · exact ⟨_, _, rfl⟩
  · exact ⟨_, _, rfl⟩
end Go.Sh
namespace Go.Proofs.Ytegcjkhebecgbaa
open Go Go.Sh Go.RowKit

end Go.Proofs.Ytegcjkhebecgbaa

/- The law of StarOf, over its contracts. -/
set_option linter.unusedVariables false
set_option linter.unusedSimpArgs false
set_option maxRecDepth 100000
namespace Go.Sh
open Go
def resG : Option Gram → Gram
  | some m => m
  | none => ⟨0, 0, []⟩
theorem GramR.own {w : World} {B : Nat} {v : Value} {o : Option Gram} (h : GramR w B v o) : GramO w B v (resG o) := by
  cases o with
  | some m => exact h
  | none => exact ⟨none, 0, fun _ => (none, 0), h, ⟨[], Row.nil _ _ _ _, fun j hj => by simp [resG] at hj⟩, fun j hj => by simp [resG] at hj, fun i j hi => by simp [resG] at hi⟩
end Go.Sh
namespace Go.Proofs.Ytegcjkhebecgbaa
open Go Go.Sh Go.RowKit

end Go.Proofs.Ytegcjkhebecgbaa

/- What the laws do with memory: copies, marks, looks, over things that lie apart. -/
set_option linter.unusedVariables false
set_option linter.unusedSimpArgs false
set_option maxRecDepth 100000
namespace Go.Sh
open Go
section
variable {P : Program} {S : WS} {k : Value → Prop}
end
end Go.Sh
namespace Go.Proofs.Ytegcjkhebecgbaa
open Go Go.Sh Go.RowKit
section
variable {k : Value → World → Prop} {w0 w : World} {L : List Thing}
end
end Go.Proofs.Ytegcjkhebecgbaa

/- Contract: TreesUpTo of the reference. -/
set_option linter.unusedVariables false
set_option linter.unusedSimpArgs false
set_option maxRecDepth 100000
namespace Go.Sh
open Go
/-- The first M of a set, if there is a list of them. -/
noncomputable def firstsOf (M : Nat) (S : List Int → Prop) : List (List Int) := open Classical in if h : ∃ l, Firsts M S l then Classical.choose h else []
theorem firstsOf_eq {M : Nat} {S : List Int → Prop} {l : List (List Int)} (h : Firsts M S l) : firstsOf M S = l := by
  unfold firstsOf
  have hx : ∃ l, Firsts M S l := ⟨l, h⟩
  rw [dif_pos hx]
  exact (Classical.choose_spec hx).uniq h
/-- The trees that are told, of the sizes up to n. -/
noncomputable def toldL (S : Nat → List Int → Prop) (many : Nat) : Nat → List (List Int)
  | 0 => []
  | n + 1 => if (toldL S many n).length < many then toldL S many n ++ firstsOf (many - (toldL S many n).length) (S (n + 1)) else toldL S many n
theorem toldL_full {S : Nat → List Int → Prop} {many n : Nat} (h : ¬ (toldL S many n).length < many) : ∀ {m : Nat}, n ≤ m → toldL S many m = toldL S many n := by
  intro m
  induction m with
  | zero => intro hm; rw [show n = 0 from by omega]
  | succ m ih =>
    intro hm
    by_cases e : n = m + 1
    · rw [e]
    · have := ih (by omega)
      rw [toldL, this, if_neg h]
theorem toldL_len {S : Nat → List Int → Prop} {many : Nat} : ∀ n, (toldL S many n).length ≤ many := by
  intro n
  induction n with
  | zero => exact Nat.zero_le _
  | succ n ih =>
    rw [toldL]
    split
    · rw [List.length_append]
      have : (firstsOf (many - (toldL S many n).length) (S (n + 1))).length ≤ many - (toldL S many n).length := by
        unfold firstsOf
        split
        · rename_i hh
          exact (Classical.choose_spec hh).len
        · simp
      omega
    · exact ih
def topD (gm : Gram) (ws : List Int) (s : Nat) : List Int → Prop := Der gm.rules ws (.inl 0) 0 ws.length s
noncomputable def treesV (gm : Gram) (ws : List Int) (most many : Int) : List (List Int) × Bool := if (((goodG gm && wordB gm.toks ws) && inB most 0 12) && inB many 0 60) = true then (toldL (topD gm ws) many.toNat most.toNat, true) else ([], false)
end Go.Sh
namespace Go.Proofs.Ytegcjkhebecgbaa
open Go Go.Sh Go.RowKit
end Go.Proofs.Ytegcjkhebecgbaa

/- slices.SortFunc at [][]int with slices.Compare: the library's contract, laid over this program. -/
set_option linter.unusedVariables false
set_option linter.unusedSimpArgs false
set_option maxRecDepth 100000
namespace Go.Proofs.Ytegcjkhebecgbaa
open Go Go.Sh Go.RowKit Go.Shelf
def rhoS : Ren := ⟨fun x => match x with
  | 6 => 318
  | 14 => 335
  | 15 => 302
  | 20 => 349
  | 21 => 350
  | 22 => 351
  | 23 => 352
  | 24 => 353
  | 25 => 354
  | 26 => 355
  | 27 => 356
  | 28 => 328
  | 29 => 329
  | 46 => 360
  | 47 => 337
  | 48 => 338
  | 49 => 361
  | 50 => 362
  | 57 => 364
  | x => x, fun x => match x with
  | 22 => 35
  | 24 => 27
  | 25 => 169
  | 39 => 247
  | 45 => 260
  | 46 => 261
  | 50 => 67
  | 53 => 266
  | 55 => 112
  | 66 => 276
  | 70 => 239
  | 76 => 293
  | 77 => 294
  | x => x, fun x => x⟩
set_option maxHeartbeats 4000000 in
theorem layS : SlLaysF.n6 Try.prog rhoS where
  mixed := by kernel_rfl
  f6 := ⟨ "slices.SortFunc[[][]int,[]int]", by decide, by kernel_rfl⟩
  f14 := ⟨ "slices.pdqsortCmpFunc[[]int]", by decide, by kernel_rfl⟩
  f15 := by kernel_rfl
  f20 := ⟨ "slices.insertionSortCmpFunc[[]int]", by decide, by kernel_rfl⟩
  f21 := ⟨ "slices.heapSortCmpFunc[[]int]", by decide, by kernel_rfl⟩
  f22 := ⟨ "slices.breakPatternsCmpFunc[[]int]", by decide, by kernel_rfl⟩
  f23 := ⟨ "slices.choosePivotCmpFunc[[]int]", by decide, by kernel_rfl⟩
  f24 := ⟨ "slices.reverseRangeCmpFunc[[]int]", by decide, by kernel_rfl⟩
  f25 := ⟨ "slices.partialInsertionSortCmpFunc[[]int]", by decide, by kernel_rfl⟩
  f26 := ⟨ "slices.partitionEqualCmpFunc[[]int]", by decide, by kernel_rfl⟩
  f27 := ⟨ "slices.partitionCmpFunc[[]int]", by decide, by kernel_rfl⟩
  f28 := by kernel_rfl
  f29 := by kernel_rfl
  f46 := ⟨ "slices.siftDownCmpFunc[[]int]", by decide, by kernel_rfl⟩
  f47 := by kernel_rfl
  f48 := by kernel_rfl
  f49 := ⟨ "slices.medianAdjacentCmpFunc[[]int]", by decide, by kernel_rfl⟩
  f50 := ⟨ "slices.medianCmpFunc[[]int]", by decide, by kernel_rfl⟩
  f57 := ⟨ "slices.order2CmpFunc[[]int]", by decide, by kernel_rfl⟩
  t0 := by kernel_rfl
  a0 := fun w => by kernel_rfl
  z0 := fun w => by kernel_rfl
  v0 := fun w => by kernel_rfl
  t3 := by kernel_rfl
  a3 := fun w => by kernel_rfl
  z3 := fun w => by kernel_rfl
  v3 := fun w => by kernel_rfl
  t4 := by kernel_rfl
  a4 := fun w => by kernel_rfl
  z4 := fun w => by kernel_rfl
  v4 := fun w => by kernel_rfl
  t5 := by kernel_rfl
  a5 := fun w => by kernel_rfl
  z5 := fun w => by kernel_rfl
  v5 := fun w => by kernel_rfl
  t9 := by kernel_rfl
  a9 := fun w => by kernel_rfl
  z9 := fun w => by kernel_rfl
  v9 := fun w => by kernel_rfl
  t22 := by kernel_rfl
  a22 := fun w => by kernel_rfl
  z22 := fun w => by kernel_rfl
  v22 := fun w => by kernel_rfl
  a24 := fun w => by kernel_rfl
  z24 := fun w => by kernel_rfl
  t25 := by kernel_rfl
  a25 := fun w => by kernel_rfl
  z25 := fun w => by kernel_rfl
  v25 := fun w => by kernel_rfl
  t39 := by kernel_rfl
  a39 := fun w => by kernel_rfl
  z39 := fun w => by kernel_rfl
  v39 := fun w => by kernel_rfl
  t45 := by kernel_rfl
  a45 := fun w => by kernel_rfl
  z45 := fun w => by kernel_rfl
  v45 := fun w => by kernel_rfl
  t46 := by kernel_rfl
  a46 := fun w => by kernel_rfl
  z46 := fun w => by kernel_rfl
  v46 := fun w => by kernel_rfl
  t50 := by kernel_rfl
  a50 := fun w => by kernel_rfl
  z50 := fun w => by kernel_rfl
  v50 := fun w => by kernel_rfl
  t53 := by kernel_rfl
  a53 := fun w => by kernel_rfl
  z53 := fun w => by kernel_rfl
  v53 := fun w => by kernel_rfl
  t55 := by kernel_rfl
  a55 := fun w => by kernel_rfl
  z55 := fun w => by kernel_rfl
  v55 := fun w => by kernel_rfl
  t66 := by kernel_rfl
  a66 := fun w => by kernel_rfl
  z66 := fun w => by kernel_rfl
  v66 := fun w => by kernel_rfl
  t70 := by kernel_rfl
  a70 := fun w => by kernel_rfl
  z70 := fun w => by kernel_rfl
  v70 := fun w => by kernel_rfl
  t76 := by kernel_rfl
  a76 := fun w => by kernel_rfl
  z76 := fun w => by kernel_rfl
  v76 := fun w => by kernel_rfl
  t77 := by kernel_rfl
  a77 := fun w => by kernel_rfl
  z77 := fun w => by kernel_rfl
  v77 := fun w => by kernel_rfl
end Go.Proofs.Ytegcjkhebecgbaa

/- Lists are sorted and cut, among things that lie apart (the program's firsts). -/
set_option linter.unusedVariables false
set_option linter.unusedSimpArgs false
set_option maxRecDepth 100000
namespace Go.Sh
open Go
/-- A slice of slices that is read; where each of them is. -/
structure IssP (F : Nat → Prop) (w : World) (X : Option Addr) (ls : List (List Int)) (ys : Nat → Option Addr × Nat) : Prop where
  le : ls.length ≤ 9223372036854775807
  ptr : 0 < ls.length → X = some (ad X)
  foot : 0 < ls.length → F (ad X).block
  row : ∀ j, j < ls.length → w.cell? ((ad X).add j) = some (.slice (ys j).1 (rgt ls j).length (ys j).2) ∧ (rgt ls j).length ≤ (ys j).2 ∧ IntsF F w (ys j).1 (rgt ls j)
theorem IssF.pick {F : Nat → Prop} {w : World} {X : Option Addr} {ls : List (List Int)} (h : IssF F w X ls) : ∃ ys, IssP F w X ls ys := by
  classical
  have key : ∀ j, ∃ y : Option Addr × Nat, j < ls.length → w.cell? ((ad X).add j) = some (.slice y.1 (rgt ls j).length y.2) ∧ (rgt ls j).length ≤ y.2 ∧ IntsF F w y.1 (rgt ls j) := fun j => by
    by_cases hj : j < ls.length
    · obtain ⟨Y, c, hr⟩ := h.row j hj
      exact ⟨(Y, c), fun _ => hr⟩
    · exact ⟨(none, 0), fun h => absurd h hj⟩
  exact ⟨fun j => Classical.choose (key j), h.le, h.ptr, h.foot, fun j hj => Classical.choose_spec (key j) hj⟩
theorem IssP.same {F : Nat → Prop} {w w' : World} {X : Option Addr} {ls : List (List Int)} {ys : Nat → Option Addr × Nat} (h : IssP F w X ls ys) (hs : ∀ q, F q → w'.heap[q]? = w.heap[q]?) : IssP F w' X ls ys := ⟨h.le, h.ptr, h.foot, fun j hj => by
  obtain ⟨h1, h2, h3⟩ := h.row j hj
  exact ⟨cell_same h1 (hs _ (by rw [add_block]; exact h.foot (by omega))), h2, h3.same hs⟩⟩
/-- What is read, as a thing. -/
def rdf (ft : Nat → Prop) (X : Option Addr) (ls : List (List Int)) (ys : Nat → Option Addr × Nat) : Thing := ⟨fun w => IssP ft w X ls ys, ft⟩
theorem Apt.rdf {w0 w : World} {L : List Thing} (H : Apt w0 w L) (i : Nat) {ft : Nat → Prop} {X : Option Addr} {ls : List (List Int)} {ys : Nat → Option Addr × Nat} (hi : L[i]? = some (Sh.rdf ft X ls ys)) : IssP ft w X ls ys := H.get i hi
theorem Apt.addRdf {w0 w w' : World} {L : List Thing} {X : Option Addr} {ls : List (List Int)} (H : Apt w0 w L) (g : Gr w w') (h : IssF (fun q => w.heap.size ≤ q) w' X ls) : ∃ ft ys, Apt w0 w' (L ++ [Sh.rdf ft X ls ys]) := by
  obtain ⟨ys, hy⟩ := h.lt.pick
  exact ⟨_, ys, H.add g (Sh.rdf _ X ls ys) (fun q hq => hq.1) (fun q hq => hq.2) fun w'' hs => hy.same hs⟩
theorem IssP.take {F : Nat → Prop} {w : World} {X : Option Addr} {ls : List (List Int)} {ys : Nat → Option Addr × Nat} (h : IssP F w X ls ys) (m : Nat) : IssP F w X (ls.take m) ys := by
  refine ⟨by rw [List.length_take]; have := h.le; omega, fun hp => h.ptr (by rw [List.length_take] at hp; omega), fun hp => h.foot (by rw [List.length_take] at hp; omega), fun j hj => ?_⟩
  rw [List.length_take] at hj
  rw [rgt_take (by omega)]
  exact h.row j (by omega)
/-- A slice that can be read. -/
def Slot (F : Nat → Prop) (w : World) (x : Option Addr × Nat × List Int) : Prop := x.2.2.length ≤ x.2.1 ∧ IntsF F w x.1 x.2.2
def El (F : Nat → Prop) (w : World) : Type := { x : Option Addr × Nat × List Int // Slot F w x }
instance (F : Nat → Prop) (w : World) : Inhabited (El F w) := ⟨⟨(none, 0, []), Nat.le_refl _, IntsF.nil F w⟩⟩
def encE {F : Nat → Prop} {w : World} (x : El F w) : Value := .slice x.1.1 x.1.2.2.length x.1.2.1
def contE {F : Nat → Prop} {w : World} (x : El F w) : List Int := x.1.2.2
def cfE {F : Nat → Prop} {w : World} (x y : El F w) : Int := cmpL x.1.2.2 y.1.2.2
theorem cfE_order (F : Nat → Prop) (w : World) : Sort.SWO (Go.Proofs.ltOf (cfE (F := F) (w := w))) where
  irrefl := fun x => decide_eq_false (p := cmpL x.1.2.2 x.1.2.2 < 0) (ltL_irrefl _)
  trans := fun x y z h1 h2 => decide_eq_true (p := cmpL x.1.2.2 z.1.2.2 < 0) (ltL_trans (of_decide_eq_true (p := cmpL x.1.2.2 y.1.2.2 < 0) h1) (of_decide_eq_true (p := cmpL y.1.2.2 z.1.2.2 < 0) h2))
  ntrans := fun x y z h1 h2 => decide_eq_false (p := cmpL x.1.2.2 z.1.2.2 < 0) fun h3 => by
    have h1 := of_decide_eq_false (p := cmpL x.1.2.2 y.1.2.2 < 0) h1
    have h2 := of_decide_eq_false (p := cmpL y.1.2.2 z.1.2.2 < 0) h2
    rcases ltL_tri x.1.2.2 y.1.2.2 with h | h | h
    · exact h1 h
    · exact h2 (by show ltL y.1.2.2 z.1.2.2; rw [← h]; exact h3)
    · exact h2 (ltL_trans h h3)
theorem sortWorld_block {α : Type} [Inhabited α] {enc : α → Value} {w : World} {g off m : Nat} {dk : Array α} {os : Array Obj} {q : Nat} (hq : q < w.heap.size) (hn : q ≠ g) : (Go.Proofs.sortWorld enc w g off m dk os).heap[q]? = w.heap[q]? := by
  have hs : q < (Sort.putRow enc (Sort.ahead w m) g off dk).heap.size := by
    simpa [Sort.putRow, Sort.mapBlock, Sort.ahead] using hq
  show ((Sort.putRow enc (Sort.ahead w m) g off dk).heap ++ os)[q]? = _
  rw [Array.getElem?_append_left hs]
  simp only [Sort.putRow, Sort.mapBlock, Array.getElem?_modify]
  rw [if_neg (fun e => hn e.symm)]
  rfl
theorem gr_grow (w : World) (os : Array Obj) : Gr w (Sort.grow w os) := ⟨rfl, rfl, rfl, by simp [Sort.grow], fun q hq _ => by
  show (w.heap ++ os)[q]? = _
  rw [Array.getElem?_append_left hq]⟩
def FootS (X : Option Addr) (ps : Nat → Option Addr × Nat) (n g : Nat) (q : Nat) : Prop := q ≠ g ∧ Foot X ps n q
theorem Row.putE {α : Type} [Inhabited α] {enc : α → Value} {w : World} {B e n c g : Nat} {cells : List Value} {d : Array α} (h : Row w B e 1 (some ⟨g, 0, none⟩) n c cells) (hd : d.size = n) : Row (Sort.putRow enc w g 0 d) B e 1 (some ⟨g, 0, none⟩) n c (d.toList.map enc) ∧ w.grownBy (Sort.putRow enc w g 0 d) (some g) := by
  rcases h.2 with h2 | ⟨g', cap, cur, e1, e2, e3, e4, e5, e6, e7⟩
  · simp at h2
  · simp only [Value.slice.injEq, Option.some.injEq, Addr.mk.injEq, and_true, true_and] at e1
    obtain ⟨rfl, rfl⟩ := e1
    have e6' : cur.size = c := by simpa using e6
    refine ⟨⟨by simp; omega, .inr ⟨g, c, Sort.putCells enc 0 d cur, rfl, e2, ?_, e4, e5, ?_, ?_⟩⟩, ⟨rfl, rfl, rfl, ?_, fun k hk hn => ?_⟩⟩
    · simp only [Sort.putRow, Sort.mapBlock, Array.getElem?_modify, if_true, e3, Option.map_some, Sort.onCells]
    · simp [Sort.putCells, e6']
    · apply List.ext_getElem?
      intro j
      rw [Nat.mul_one, List.getElem?_take]
      by_cases hj : j < n
      · rw [if_pos hj, Array.getElem?_toList]
        simp only [Sort.putCells, Array.getElem?_mapIdx]
        have hc : j < cur.size := by omega
        rw [Array.getElem?_eq_getElem hc]
        simp [hd, hj]
      · rw [if_neg hj, List.getElem?_eq_none (by simp; omega)]
    · simp [Sort.putRow, Sort.mapBlock]
    · simp only [Sort.putRow, Sort.mapBlock, Array.getElem?_modify]
      rw [if_neg (fun e => hn (by rw [e]))]
end Go.Sh
namespace Go.Proofs.Ytegcjkhebecgbaa
open Go Go.Sh Go.RowKit Go.Shelf
theorem has190 : HasBody Try.prog 318 := ⟨_, Try.func318, by kernel_rfl, by kernel_rfl⟩
theorem has164 : HasBody Try.prog 281 := ⟨_, Try.func281, by kernel_rfl, by kernel_rfl⟩
theorem enters_has {P : Program} {g : FuncId} (h : HasBody P g) : Enters P g := by
  obtain ⟨fn, hf, hb, hn⟩ := h
  cases hbody : fn.body with
  | none => rw [hbody] at hb; cases hb
  | some c => exact enters_of hf hn hbody
theorem cmp_lays {F : Nat → Prop} {w : World} {g size : Nat} (hF : ∀ q, F q → q ≠ g) : CmpLays1 Try.prog 281 #[] (encE (F := F) (w := w)) cfE g 0 size w := by
  intro m os dk hs x y
  have key : ∀ x : El F w, Ints (sortWorld encE w g 0 m dk os) x.1.1 x.1.2.2 := fun x =>
    (x.2.2.lt.same fun q hq => sortWorld_block hq.2 (hF q hq.1)).is
  refine Calls.mono (compareL_c (c := x.1.2.1) (d := y.1.2.1) (key x) (key y) (k := fun v w' => v = .int .i64 (cfE x y) ∧ w' = sortWorld encE w g 0 m dk os) ⟨rfl, rfl⟩).2 ?_
  intro e w' he
  cases e with
  | returned v =>
    obtain ⟨h1, h2⟩ := he
    exact ⟨by rw [h1], 0, #[], by rw [Sort.grow_empty]; exact h2⟩
  | panicked c => exact he.elim
  | outgrown => exact he.elim
section
variable {k : Value → World → Prop} {w0 w : World} {L : List Thing}
set_option maxHeartbeats 1600000 in
theorem sortH (H : Apt w0 w L) (i : Nat) {n c : Nat} {X : Option Addr} {ls : List (List Int)} {ps : Nat → Option Addr × Nat} (hi : L[i]? = some (lss X c ls ps)) (hX : X ≠ none) (hn : n = ls.length) (hlen : ls.length ≤ 1000000)
    (h : ∀ (w' : World) (ls' : List (List Int)) (ys : Nat → Option Addr × Nat), ls'.Perm ls → ls'.Pairwise (fun a b => ¬ ltL b a) → Apt w0 w' (L.set i (rdf (Foot X ps ls.length) X ls' ys)) → k (.tuple #[]) w') : CallK Try.prog 318 [.slice X n c, .func (.func 281) #[] #[]] k w := by
  subst hn
  have o := H.lssi i hi
  obtain ⟨⟨cells, hr, hc⟩, ho, ht⟩ := id o
  obtain ⟨g, tl, rfl, _, hnc, hcm, _⟩ := Row.full hr hX
  obtain ⟨f1, f2, f3⟩ := Row.facts hr
  obtain ⟨F, hF⟩ : ∃ F, F = FootS (some ⟨g, 0, none⟩) ps ls.length g := ⟨_, rfl⟩
  have slot : ∀ j, j < ls.length → Slot F w ((ps j).1, (ps j).2, rgt ls j) := fun j hj => by
    have hj' := ho j hj
    subst hF
    refine ⟨(Row.cap hj').1, Own.ints hj', fun hp => ?_⟩
    have hptr := Row.ptr hj' hp
    have hblk : blk (ps j).1 = some (ad (ps j).1).block := by
      conv => lhs; rw [hptr]
      rfl
    have hne := row_ne hj' hr (by decide)
    refine ⟨fun e => ?_, .inr ⟨j, hj, hblk⟩⟩
    rcases hne with h1 | h1
    · rw [hblk] at h1; cases h1
    · exact h1 (by rw [hblk, e]; rfl)
  obtain ⟨d, hd⟩ : ∃ d : Array (El F w), d = Array.ofFn (n := ls.length) fun j => ⟨((ps j.1).1, (ps j.1).2, rgt ls j.1), slot j.1 j.2⟩ := ⟨_, rfl⟩
  have hds : d.size = ls.length := by rw [hd]; exact Array.size_ofFn
  have hdg : ∀ j (hj : j < ls.length), d[j]! = ⟨((ps j).1, (ps j).2, rgt ls j), slot j hj⟩ := fun j hj => by
    rw [getElem!_pos d j (by rw [hds]; exact hj)]
    subst hd
    exact Array.getElem_ofFn ..
  have hH : Sort.Holds encE w g 0 d := fun j hj => by
    rw [hds] at hj
    refine ⟨?_, by rw [Nat.zero_add]; exact f2 j⟩
    rw [hdg j hj]
    exact f1 j _ (hc j hj)
  have hlt : g < w.heap.size := (hr.ge (q := g) rfl).2
  have hcall := Any.slices_SortFunc layS (encE (F := F) (w := w)) (fun x => rfl) cfE (cfE_order F w) 281 #[] g 0 c d w (enters_has has164) (cmp_lays fun q hq => by rw [hF] at hq; exact hq.1) hH hlt (by rw [hds]; omega)
  rw [hds] at hcall
  refine ⟨has190, Calls.mono hcall ?_⟩
  rintro e w' ⟨rfl, d', m, os, hperm, hsort, rfl⟩
  have hsz : d'.size = ls.length := by rw [hperm.1, hds]
  have hp : d'.toList.Perm d.toList := by
    have := hperm.2.2
    rwa [Array.extract_eq_self_of_le (by omega), Array.extract_eq_self_of_le (by omega)] at this
  have hdl : d.toList.map contE = ls := by
    refine List.ext_getElem (by simp [hds]) fun j h1 h2 => ?_
    have := hdg j h2
    rw [getElem!_pos d j (by rw [hds]; exact h2)] at this
    rw [List.getElem_map, Array.getElem_toList, this]
    exact rgt_eq h2
  have hlsl : (d'.toList.map contE).length = ls.length := by simp [hsz]
  have hgx : Gx (fun q => blk (some (⟨g, 0, none⟩ : Addr)) = some q) w (sortWorld encE w g 0 m d' os) :=
    ⟨rfl, rfl, rfl, by
      show w.heap.size ≤ ((Sort.putRow encE (Sort.ahead w m) g 0 d').heap ++ os).size
      simp [Sort.putRow, Sort.mapBlock, Sort.ahead], fun q hq hn => sortWorld_block hq fun e => hn (by rw [e]; rfl)⟩
  have hr1 : Row (Sort.ahead w m) w0.heap.size 27 1 (some ⟨g, 0, none⟩) ls.length c cells := hr
  have hr2 := (Row.putE (enc := encE) hr1 hsz).1.gr (gr_grow _ os)
  have hiss : IssF (Foot (some ⟨g, 0, none⟩) ps ls.length) (sortWorld encE w g 0 m d' os) (some ⟨g, 0, none⟩) (d'.toList.map contE) := by
    refine IssF.of (Row.src hr2) ⟨by simp, fun j v hv => ?_⟩ (by rw [hlsl]; omega) fun _ => .inl rfl
    have hj : j < d'.size := by
      have := (List.getElem?_eq_some_iff.1 hv).1
      simpa using this
    have hv' : encE d'[j] = v := by
      rw [List.getElem?_map, Array.getElem?_toList, Array.getElem?_eq_getElem hj] at hv
      exact Option.some.inj hv
    have hrg : rgt (d'.toList.map contE) j = contE d'[j] := by
      rw [rgt_eq (by simpa using hj)]
      simp
    rw [hrg]
    refine ⟨_, _, hv'.symm, d'[j].2.1, (d'[j].2.2.lt.same fun q hq => ?_).mono fun q hq => ?_⟩
    · rw [hF] at hq
      exact sortWorld_block hq.2 hq.1.1
    · rw [hF] at hq
      exact hq.1.2
  obtain ⟨ys, hys⟩ := hiss.pick
  refine h _ (d'.toList.map contE) ys ?_ ?_ (H.set hi (it' := rdf (Foot (some ⟨g, 0, none⟩) ps ls.length) (some ⟨g, 0, none⟩) (d'.toList.map contE) ys) ⟨hgx.os, hgx.tape, hgx.output, hgx.size, fun q hq hn => hgx.block q hq fun e => hn (.inl e)⟩ (fun q hq => .inl hq) (fun q hq => Nat.lt_of_lt_of_le ((H.ok i _ hi).hi q hq) hgx.size) fun w'' hs => hys.same hs)
  · have := hp.map contE
    rwa [hdl] at this
  · refine List.pairwise_iff_getElem.2 fun a b ha hb hab => ?_
    rw [hlsl] at ha hb
    have := hsort a b (Nat.zero_le _) hab hb
    have := of_decide_eq_false this
    simp only [List.getElem_map, Array.getElem_toList]
    rw [getElem!_pos d' a (by omega), getElem!_pos d' b (by omega)] at this
    exact this
/-- The program's firsts. -/
theorem firsts_c (H : Apt w0 w L) (i j : Nat) (hij : i ≠ j) {n c be M : Nat} {X : Option Addr} {ls : List (List Int)} {ps : Nat → Option Addr × Nat} {cells : List Value} (hi : L[i]? = some (lss X c ls ps)) (hj : L[j]? = some (bx be cells 200)) (hm : cells[4]? = some (.int .i64 (M : Int))) (hX : X ≠ none) (hn : n = ls.length) (hlen : ls.length ≤ 1000000)
    (h : ∀ (w' : World) (ls' : List (List Int)) (ys : Nat → Option Addr × Nat), ls'.Perm ls → ls'.Pairwise (fun a b => ¬ ltL b a) → Apt w0 w' (L.set i (rdf (Foot X ps ls.length) X (ls'.take M) ys)) → (ls'.take M).length ≤ c → k (.slice X (ls'.take M).length c) w') : CallK Try.prog 299 [ptrv be, .slice X n c] k w := by
  subst hn
  have o := H.lssi i hi
  have hcap := o.cap
  have hsub := o.sub0
  refine enter299 ?_
  unfold S299
  refine sortH H i hi hX rfl hlen fun w1 ls' ys hp hs H1 => ?_
  have hl' := hp.length_eq
  simp only [zq18, zq19, zq20, zq21, zq22, zq23, zq24, zq25, zq26, zq27, zq28, zq4, zq3, zq1, zq2, zq0, zq29, zq30, zq14, zq15, zq16, zq17, zq13, zq10, zq12, zq11, zq7, zq5, zq6, zq9, zq8, zq31, zq32, ite_T, ite_F, zq33, zq34, zq35, len27, len24, len35, fa26_0, fa26_1, fa26_2, fa33_0, fa33_1, fa124_0, fa124_1, fa200_0, fa200_1, fa200_2, fa200_3, Nat.reduceEqDiff]
  have hb : Box w1 be cells 200 := H1.box j (by rw [List.getElem?_set, if_neg hij]; exact hj)
  rw [ldB3 hb hm]
  refine rdi min_int ?_
  have e : (if (M : Int) < (ls.length : Int) then (M : Int) else (ls.length : Int)) = (((ls'.take M).length : Nat) : Int) := by
    rw [List.length_take, hl']
    split <;> omega
  rw [e]
  have hle : (ls'.take M).length ≤ c := by rw [List.length_take]; omega
  refine rdi (slh35 (by omega) (by omega)) ?_
  rw [hsub, Int.toNat_natCast]
  have hlt := (H.ok i _ hi).hi
  have hi1 : (L.set i (rdf (Foot X ps ls.length) X ls' ys))[i]? = some (rdf (Foot X ps ls.length) X ls' ys) := by
    rw [List.getElem?_set, if_pos rfl, if_pos (get_lt hi)]
  have H2 := H1.set hi1 (it' := rdf (Foot X ps ls.length) X (ls'.take M) ys) (Gx.refl _ w1) (fun q hq => .inl hq) (fun q hq => (H1.ok i _ hi1).hi q hq) fun w'' hs => ((H1.rdf i hi1).take M).same hs
  rw [List.set_set] at H2
  exact h w1 ls' ys hp hs H2 hle
end
end Go.Proofs.Ytegcjkhebecgbaa

/- A map whose values lie in memory of their own, among things that lie apart. -/
set_option linter.unusedVariables false
set_option linter.unusedSimpArgs false
set_option maxRecDepth 100000
namespace Go.Sh
open Go Go.WideMaps
structure Ent where
  key : Value
  val : Value
  it : Thing
/-- It holds, and holds on while its blocks stay. -/
def Robust (it : Thing) (w : World) : Prop := ∀ w', (∀ q, it.ft q → w'.heap[q]? = w.heap[q]?) → it.P w'
theorem Robust.here {it : Thing} {w : World} (h : Robust it w) : it.P w := h w fun _ _ => rfl
theorem Robust.next {it : Thing} {w w' : World} (h : Robust it w) (hs : ∀ q, it.ft q → w'.heap[q]? = w.heap[q]?) : Robust it w' := fun w'' h' => h w'' fun q hq => (h' q hq).trans (hs q hq)
structure MapG (b : Nat) (ents : List Ent) (has : List Value) (w : World) : Prop where
  blk : ∃ es clock, w.heap[b]? = some (.map es clock) ∧ (∀ e ∈ es.toList, ∃ t ∈ ents, e.key = t.key ∧ e.val = t.val) ∧ ∀ x ∈ has, ∃ e ∈ es.toList, e.key = x
  sub : ∀ t ∈ ents, Robust t.it w
  off : ∀ t ∈ ents, ¬ t.it.ft b
def mpG (b : Nat) (ents : List Ent) (has : List Value) : Thing := ⟨MapG b ents has, fun q => q = b ∨ ∃ t ∈ ents, t.it.ft q⟩
theorem MapG.same {b : Nat} {ents : List Ent} {has : List Value} {w w' : World} (h : MapG b ents has w) (hs : ∀ q, (mpG b ents has).ft q → w'.heap[q]? = w.heap[q]?) : MapG b ents has w' := by
  obtain ⟨⟨es, clock, h1, h2, h3⟩, h4, h5⟩ := h
  exact ⟨⟨es, clock, by rw [hs b (.inl rfl)]; exact h1, h2, h3⟩, fun t ht => (h4 t ht).next fun q hq => hs q (.inr ⟨t, ht, hq⟩), h5⟩
section
variable {P : Program} {k : Value → World → Prop} {w0 w : World} {L : List Thing} {ents : List Ent} {has : List Value}
/-- A map with nothing in it. -/
theorem Apt.emptyG (H : Apt w0 w L) (i : Nat) {b : Nat} (hi : L[i]? = some (mpi (fun _ _ => False) b)) : Apt w0 w (L.set i (mpG b [] [])) := by
  have key : ∀ w', (mpi (fun _ _ => False) b).P w' → MapG b [] [] w' := fun w' h => by
    obtain ⟨es, clock, h1, h2⟩ := h
    exact ⟨⟨es, clock, h1, fun e he => (h2 e he).elim, fun x hx => by simp at hx⟩, fun t ht => by simp at ht, fun t ht => by simp at ht⟩
  refine H.weaken i hi (fun q hq => ?_) (fun w' _ h => key w' h) (fun w' w'' hs h => MapG.same h hs)
  rcases hq with hq | ⟨t, ht, _⟩
  · exact hq
  · simp at ht
theorem lookupG (H : Apt w0 w L) (i : Nat) {b : Nat} (hi : L[i]? = some (mpG b ents has)) {t kt et : TypeId} {x z : Value} {lx : Lit} (ht : P.underlying t = some (.map kt et)) (K : KeyLaw P kt) (hx : keyOf P kt x = some lx) (hG : ∀ e ∈ ents, ∃ l, keyOf P kt e.key = some l) (hz : ∀ w, (zeroValue et).run P w = .ok z w) (ok : Bool)
    (h0 : x ∉ has → k (if ok then .tuple #[z, .bool false] else z) w) (h1 : ∀ e ∈ ents, e.key = x → e.it.P w → k (if ok then .tuple #[e.val, .bool true] else e.val) w) : Do P (sLookup t (.map (some b)) x ok) k w := by
  obtain ⟨⟨es, clock, hb, hes, hhas⟩, hsub, hoff⟩ := H.get i hi
  have hget : (getObj b).run P w = .ok (.map es clock) w := by simp [getObj, Sem.run, hb]
  have hG' : ∀ e ∈ es.toList, ∃ l, keyOf P kt e.key = some l := fun e he => by
    obtain ⟨t, ht, e1, _⟩ := hes e he
    rw [e1]
    exact hG t ht
  rcases K.find w hx es.toList hG' with ⟨hf, hno⟩ | ⟨j, e, hf, hj, hk⟩
  · have e' : (sLookup t (.map (some b)) x ok).run P w = .ok (.value (if ok then .tuple #[z, .bool false] else z)) w := by
      cases ok <;> simp [sLookup, Instr.lookup, run_underlying ht, hget, K.check w _ hx, hf, hz]
    rw [do_value e']
    refine h0 fun hm => ?_
    obtain ⟨e, he, hke⟩ := hhas x hm
    exact hno e he hke
  · have e' : (sLookup t (.map (some b)) x ok).run P w = .ok (.value (if ok then .tuple #[e.val, .bool true] else e.val)) w := by
      cases ok <;> simp [sLookup, Instr.lookup, run_underlying ht, hget, K.check w _ hx, hf]
    rw [do_value e']
    obtain ⟨t, ht, e1, e2⟩ := hes e (List.mem_of_getElem? hj)
    rw [e2]
    exact h1 t ht (by rw [← e1, hk]) (hsub t ht).here
/-- A value that lies in a thing of its own comes into the map. -/
theorem updateG (H : Apt w0 w L) (i j : Nat) (hij : i ≠ j) {b : Nat} (hi : L[i]? = some (mpG b ents has)) {it : Thing} (hj : L[j]? = some it) {t kt et : TypeId} {x v : Value} {lx : Lit} (ht : P.underlying t = some (.map kt et)) (K : KeyLaw P kt) (hx : keyOf P kt x = some lx) (hG : ∀ e ∈ ents, ∃ l, keyOf P kt e.key = some l)
    (h : ∀ w', Gx (fun q => q = b) w w' → Apt w0 w' ((L.set i (mpG b (⟨x, v, it⟩ :: ents) (x :: has))).set j emp) → k undef w') : Do P (sMapUpdate t (.map (some b)) x v) k w := by
  obtain ⟨⟨es, clock, hb, hes, hhas⟩, hsub, hoff⟩ := H.get i hi
  have hget : (getObj b).run P w = .ok (.map es clock) w := MapKept.run_getObj_map hb
  have hG' : ∀ e ∈ es.toList, ∃ l, keyOf P kt e.key = some l := fun e he => by
    obtain ⟨t, ht, e1, _⟩ := hes e he
    rw [e1]
    exact hG t ht
  have hbj : ¬ it.ft b := fun hb' => H.two i j _ _ hij hi hj b (.inl rfl) hb'
  have fin : ∀ (es' : Array MapEntry) (clock' : Nat), (∀ e ∈ es'.toList, ∃ t ∈ (⟨x, v, it⟩ :: ents : List Ent), e.key = t.key ∧ e.val = t.val) → (∀ y ∈ x :: has, ∃ e ∈ es'.toList, e.key = y) → (Instr.mapUpdate t (.map (some b)) x v).run P w = .ok () { w with heap := w.heap.setIfInBounds b (.map es' clock') } → Do P (sMapUpdate t (.map (some b)) x v) k w := fun es' clock' h1 h2 hr => by
    have e' : (sMapUpdate t (.map (some b)) x v).run P w = .ok .skip { w with heap := w.heap.setIfInBounds b (.map es' clock') } := by
      simp only [sMapUpdate, Sem.run_bind, hr]
      rfl
    rw [do_skip e']
    have hlt := (Array.getElem?_eq_some_iff.1 hb).1
    have gx : Gx (fun q => q = b) w { w with heap := w.heap.setIfInBounds b (.map es' clock') } := ⟨rfl, rfl, rfl, by simp, fun q hq hn => Array.getElem?_setIfInBounds_ne (fun e => hn e.symm)⟩
    have hother : ∀ q, q ≠ b → ({ w with heap := w.heap.setIfInBounds b (.map es' clock') } : World).heap[q]? = w.heap[q]? := fun q hq => Array.getElem?_setIfInBounds_ne (fun e => hq e.symm)
    have hm : MapG b (⟨x, v, it⟩ :: ents) (x :: has) { w with heap := w.heap.setIfInBounds b (.map es' clock') } := by
      refine ⟨⟨es', clock', by simp [hlt], h1, h2⟩, fun t ht => ?_, fun t ht => ?_⟩
      · rcases List.mem_cons.1 ht with rfl | ht
        · intro w'' hs
          refine (H.ok j _ hj).kept w'' fun q hq => (hs q hq).trans (hother q fun e => hbj (e ▸ hq))
        · exact (hsub t ht).next fun q hq => hother q fun e => hoff t ht (e ▸ hq)
      · rcases List.mem_cons.1 ht with rfl | ht
        · exact hbj
        · exact hoff t ht
    refine h _ gx (H.join (it := mpG b (⟨x, v, it⟩ :: ents) (x :: has)) hij hi hj ⟨rfl, rfl, rfl, by simp, fun q hq hn => hother q fun e => hn (.inl (.inl e))⟩ (fun q hq => ?_) (fun q hq => ?_) fun w'' hs => hm.same hs)
    · rcases hq with hq | ⟨t, ht, hq⟩
      · exact .inl (.inl hq)
      · rcases List.mem_cons.1 ht with rfl | ht
        · exact .inr (.inl hq)
        · exact .inl (.inr ⟨t, ht, hq⟩)
    · show q < (w.heap.setIfInBounds b (.map es' clock')).size
      rw [Array.size_setIfInBounds]
      rcases hq with hq | ⟨t, ht, hq⟩
      · exact (H.ok i _ hi).hi q (.inl hq)
      · rcases List.mem_cons.1 ht with rfl | ht
        · exact (H.ok j _ hj).hi q hq
        · exact (H.ok i _ hi).hi q (.inr ⟨t, ht, hq⟩)
  rcases K.find w hx es.toList hG' with ⟨hf, _⟩ | ⟨m, e, hf, hm, hk⟩
  · refine fin (es.push { key := x, val := v, born := clock }) (clock + 1) (fun e he => ?_) (fun y hy => ?_) ?_
    · rw [Array.toList_push] at he
      rcases List.mem_append.1 he with he | he
      · obtain ⟨t, ht, h1⟩ := hes e he
        exact ⟨t, List.mem_cons_of_mem _ ht, h1⟩
      · obtain rfl := List.mem_singleton.1 he
        exact ⟨_, List.mem_cons_self .., rfl, rfl⟩
    · rw [Array.toList_push]
      rcases List.mem_cons.1 hy with rfl | hy
      · exact ⟨_, List.mem_append_right _ (List.mem_singleton.2 rfl), rfl⟩
      · obtain ⟨e, he, h1⟩ := hhas y hy
        exact ⟨e, List.mem_append_left _ he, h1⟩
    · simp [Instr.mapUpdate, run_underlying ht, hget, K.check w _ hx, hf, MapKept.run_setObj_map _ hb]
  · have hk2 : (es[m]?).map (·.key) = some x := by
      rw [← Array.getElem?_toList, hm, ← hk]
      rfl
    refine fin (es.modify m fun e => { e with key := x, val := v }) clock (fun e' he' => ?_) (fun y hy => ?_) ?_
    · obtain ⟨q, hq⟩ := List.getElem?_of_mem he'
      rw [Array.getElem?_toList, Array.getElem?_modify] at hq
      split at hq
      · cases h3 : es[q]? with
        | none => rw [h3] at hq; cases hq
        | some e0 =>
          rw [h3] at hq
          simp only [Option.map_some, Option.some.injEq] at hq
          rw [← hq]
          exact ⟨_, List.mem_cons_self .., rfl, rfl⟩
      · obtain ⟨t, ht, h1⟩ := hes e' (by
          rw [← Array.getElem?_toList] at hq
          exact List.mem_of_getElem? hq)
        exact ⟨t, List.mem_cons_of_mem _ ht, h1⟩
    · have key : ∃ e ∈ es.toList, e.key = y := by
        rcases List.mem_cons.1 hy with rfl | hy
        · exact ⟨e, List.mem_of_getElem? hm, hk⟩
        · exact hhas y hy
      obtain ⟨e0, he0, h0⟩ := key
      obtain ⟨q, hq⟩ := List.getElem?_of_mem he0
      rw [Array.getElem?_toList] at hq
      by_cases hmq : m = q
      · subst hmq
        rw [← Array.getElem?_toList, hm] at hq
        cases hq
        refine ⟨{ e with key := x, val := v }, List.mem_of_getElem? (i := m) ?_, by rw [← h0, hk]⟩
        rw [Array.getElem?_toList, Array.getElem?_modify, if_pos rfl, ← Array.getElem?_toList, hm]
        rfl
      · refine ⟨e0, List.mem_of_getElem? (i := q) ?_, h0⟩
        rw [Array.getElem?_toList, Array.getElem?_modify, if_neg hmq, hq]
    · simp [Instr.mapUpdate, run_underlying ht, hget, K.check w _ hx, hf, hk2, K.stays w hx, MapKept.run_setObj_map _ hb]
end
end Go.Sh
namespace Go.Proofs.Ytegcjkhebecgbaa
open Go Go.Sh Go.RowKit Go.WideMaps
end Go.Proofs.Ytegcjkhebecgbaa

/- What the program collects: the plain law; results that are held. -/
set_option linter.unusedVariables false
set_option linter.unusedSimpArgs false
set_option maxRecDepth 100000
namespace Go.Sh
open Go
theorem rise_nodup {l : List (List Int)} (h : Rise l) : l.Nodup := h.imp fun h e => by
  subst e
  exact ltL_irrefl _ h
/-- Enough of a set has been collected for its first M. -/
structure Coll (M : Nat) (S : List Int → Prop) (l : List (List Int)) : Prop where
  nodup : l.Nodup
  mem : ∀ x ∈ l, S x
  all : ∀ x, S x → x ∈ l ∨ Under M (fun y => y ∈ l) x
section
variable {M : Nat} {S S' : List Int → Prop} {l l' : List (List Int)}
theorem Coll.nil (h : ∀ x, ¬ S x) : Coll M S [] := ⟨List.nodup_nil, fun x hx => by simp at hx, fun x hx => absurd hx (h x)⟩
theorem Coll.congr (h : Coll M S l) (e : ∀ x, S' x ↔ S x) : Coll M S' l := ⟨h.nodup, fun x hx => (e x).2 (h.mem x hx), fun x hx => h.all x ((e x).1 hx)⟩
theorem Coll.append (h : Coll M S l) (h' : Firsts M S' l') (hd : ∀ x, S x → ¬ S' x) : Coll M (fun z => S z ∨ S' z) (l ++ l') := by
  refine ⟨List.nodup_append.2 ⟨h.nodup, rise_nodup h'.rise, fun a ha b hb e => ?_⟩, fun x hx => ?_, fun x hx => ?_⟩
  · subst e
    exact hd a (h.mem a ha) (h'.mem a hb)
  · rcases List.mem_append.1 hx with e | e
    · exact .inl (h.mem x e)
    · exact .inr (h'.mem x e)
  · rcases hx with hx | hx
    · rcases h.all x hx with e | e
      · exact .inl (List.mem_append_left _ e)
      · exact .inr (e.mono fun y hy => List.mem_append_left _ hy)
    · rcases h'.all x hx with e | ⟨e1, e2⟩
      · exact .inl (List.mem_append_right _ e)
      · exact .inr ⟨l', h'.rise, e1, fun y hy => ⟨List.mem_append_right _ hy, e2 y hy⟩⟩
/-- There is enough without those that come behind. -/
theorem Coll.full (h : Coll M S l) (hr : Rise l) (hM : M ≤ l.length) (hl : ∀ x y, S x → S' y → ltL x y) : Coll M (fun z => S z ∨ S' z) l := by
  refine ⟨h.nodup, fun x hx => .inl (h.mem x hx), fun x hx => ?_⟩
  rcases hx with hx | hx
  · exact h.all x hx
  · refine .inr ⟨l.take M, hr.sublist (List.take_sublist _ _), by rw [List.length_take]; omega, fun y hy => ?_⟩
    have := (List.take_sublist _ _).subset hy
    exact ⟨this, hl y x (h.mem y this) hx⟩
theorem Coll.done (h : Coll M S l) (hp : l'.Perm l) (hs : l'.Pairwise (fun a b => ¬ ltL b a)) : Firsts M S (l'.take M) := Firsts.sorted hp hs h.nodup h.mem h.all
end
theorem take_step {α : Type} {l : List α} {x : α} {M : Nat} : (l ++ [x]).take M = if l.length < M then l.take M ++ [x] else l.take M := by
  by_cases h : l.length < M
  · rw [if_pos h, List.take_of_length_le (by simp; omega), List.take_of_length_le (by omega)]
  · rw [if_neg h, List.take_append_of_le_length (by omega)]
theorem partL_len {F R : List (List Int)} {a b : Nat} (ha : a ≤ F.length) (hb : b ≤ R.length) : (partL F R a b).length = a * R.length + b := by
  unfold partL prodL
  rw [List.length_append, List.length_map, List.length_take, List.length_flatMap]
  have h : ∀ l : List (List Int), (l.map fun x => (R.map (x ++ ·)).length).sum = l.length * R.length := by
    intro l
    induction l with
    | nil => simp
    | cons x l ih =>
      rw [List.map_cons, List.sum_cons, ih, List.length_map, List.length_cons, Nat.add_mul]
      omega
  rw [h, List.length_take]
  rw [Nat.min_eq_left ha, Nat.min_eq_left hb]
/-! ### What is held -/
/-- All that is known is right. -/
def GoodT (M : Nat) (rs : List RuleL) (ws : List Int) (ents : List Ent) : Prop :=
  ∀ t ∈ ents, ∃ a i j s, a ≤ 1000 ∧ i ≤ 1000 ∧ j ≤ 1000 ∧ s ≤ 1000 ∧ t.key = keyV a i j s ∧ ∃ X c l ft ys, t.val = .slice X (List.length l) c ∧ t.it = rdf ft X l ys ∧ l.length ≤ c ∧ ∀ q p, a = q * 5 + p → p ≤ 4 → q < 100 → Firsts M (Der rs ws (.inr ((rul rs q).2.drop p)) i j s) l
def Held (ents : List Ent) (X : Option Addr) (l : List (List Int)) : Prop := l = [] ∨ ∃ t ∈ ents, ∃ ft ys, t.it = rdf ft X l ys
theorem Held.mono {ents ents' : List Ent} {X : Option Addr} {l : List (List Int)} (h : Held ents X l) (hs : ∀ t ∈ ents, t ∈ ents') : Held ents' X l := by
  rcases h with h | ⟨t, ht, ft, ys, e⟩
  · exact .inl h
  · exact .inr ⟨t, hs t ht, ft, ys, e⟩
theorem Held.read {ents : List Ent} {X : Option Addr} {l : List (List Int)} (h : Held ents X l) : ∃ ys, ∀ {w0 w : World} {L : List Thing} {b : Nat} {has : List Value}, Apt w0 w L → (i : Nat) → L[i]? = some (mpG b ents has) → IssP (fun _ => True) w X l ys := by
  rcases h with rfl | ⟨t, ht, ft, ys, e⟩
  · exact ⟨fun _ => (none, 0), fun {w0 w L b has} H i hi => ⟨by simp, fun h => by simp at h, fun h => trivial, fun j h => by simp at h⟩⟩
  · refine ⟨ys, fun {w0 w L b has} H i hi => ?_⟩
    have h1 : MapG b ents has w := H.get i hi
    have h2 := (h1.sub t ht).here
    rw [e] at h2
    have h3 : IssP ft w X l ys := h2
    exact ⟨h3.le, h3.ptr, fun _ => trivial, fun j hj => by
      obtain ⟨a, b, c⟩ := h3.row j hj
      exact ⟨a, b, c.mono fun _ _ => trivial⟩⟩
/-- A thing comes to those that are held. -/
theorem Apt.absorb {w0 w : World} {L : List Thing} (H : Apt w0 w L) (i j : Nat) (hij : i ≠ j) {b : Nat} {ents : List Ent} {has : List Value} {it : Thing} (hi : L[i]? = some (mpG b ents has)) (hj : L[j]? = some it) (x v : Value) : Apt w0 w ((L.set i (mpG b (⟨x, v, it⟩ :: ents) has)).set j emp) := by
  obtain ⟨⟨es, clock, hb, hes, hhas⟩, hsub, hoff⟩ : MapG b ents has w := H.get i hi
  have hm : MapG b (⟨x, v, it⟩ :: ents) has w := by
    refine ⟨⟨es, clock, hb, fun e he => ?_, hhas⟩, fun t ht => ?_, fun t ht => ?_⟩
    · obtain ⟨t, ht, h1⟩ := hes e he
      exact ⟨t, List.mem_cons_of_mem _ ht, h1⟩
    · rcases List.mem_cons.1 ht with rfl | ht
      · exact (H.ok j _ hj).kept
      · exact hsub t ht
    · rcases List.mem_cons.1 ht with rfl | ht
      · exact fun hb' => H.two i j _ _ hij hi hj b (.inl rfl) hb'
      · exact hoff t ht
  refine H.join (it := mpG b (⟨x, v, it⟩ :: ents) has) hij hi hj (Gx.refl _ w) (fun q hq => ?_) (fun q hq => ?_) fun w'' hs => hm.same hs
  · rcases hq with hq | ⟨t, ht, hq⟩
    · exact .inl (.inl hq)
    · rcases List.mem_cons.1 ht with rfl | ht
      · exact .inr (.inl hq)
      · exact .inl (.inr ⟨t, ht, hq⟩)
  · rcases hq with hq | ⟨t, ht, hq⟩
    · exact (H.ok i _ hi).hi q (.inl hq)
    · rcases List.mem_cons.1 ht with rfl | ht
      · exact (H.ok j _ hj).hi q hq
      · exact (H.ok i _ hi).hi q (.inr ⟨t, ht, hq⟩)
theorem GoodT.dummy {M : Nat} {rs : List RuleL} {ws : List Int} {ents : List Ent} (h : GoodT M rs ws ents) {X : Option Addr} {c : Nat} {l : List (List Int)} {ft : Nat → Prop} {ys : Nat → Option Addr × Nat} (hc : l.length ≤ c) : GoodT M rs ws (⟨keyV 1000 0 0 0, .slice X l.length c, rdf ft X l ys⟩ :: ents) := fun t ht => by
  rcases List.mem_cons.1 ht with rfl | ht
  · exact ⟨1000, 0, 0, 0, by omega, by omega, by omega, by omega, rfl, X, c, l, ft, ys, rfl, rfl, hc, fun q p h1 h2 h3 => by omega⟩
  · exact h t ht
theorem GoodT.real {M : Nat} {rs : List RuleL} {ws : List Int} {ents : List Ent} (h : GoodT M rs ws ents) {X : Option Addr} {c : Nat} {l : List (List Int)} {ft : Nat → Prop} {ys : Nat → Option Addr × Nat} (hc : l.length ≤ c) {q p i j s : Nat} (hq : q < 100) (hp : p ≤ 4) (hi : i ≤ 1000) (hj : j ≤ 1000) (hs : s ≤ 1000) (hf : Firsts M (Der rs ws (.inr ((rul rs q).2.drop p)) i j s) l) : GoodT M rs ws (⟨keyV (q * 5 + p) i j s, .slice X l.length c, rdf ft X l ys⟩ :: ents) := fun t ht => by
  rcases List.mem_cons.1 ht with rfl | ht
  · refine ⟨q * 5 + p, i, j, s, by omega, hi, hj, hs, rfl, X, c, l, ft, ys, rfl, rfl, hc, fun q' p' h1 h2 h3 => ?_⟩
    obtain ⟨rfl, rfl⟩ : q = q' ∧ p = p' := by omega
    exact hf
  · exact h t ht
theorem GoodT.get {M : Nat} {rs : List RuleL} {ws : List Int} {ents : List Ent} (h : GoodT M rs ws ents) {e : Ent} (he : e ∈ ents) {q p i j s : Nat} (hk : e.key = keyV (q * 5 + p) i j s) (hp : p ≤ 4) (hq : q < 100) : ∃ X c l ft ys, e.val = .slice X (List.length l) c ∧ e.it = rdf ft X l ys ∧ l.length ≤ c ∧ Firsts M (Der rs ws (.inr ((rul rs q).2.drop p)) i j s) l := by
  obtain ⟨a, i', j', s', h1, h2, h3, h4, h5, X, c, l, ft, ys, h6, h7, h8, h9⟩ := h e he
  rw [h5] at hk
  obtain ⟨e1, e2, e3, e4⟩ := keyV_inj hk
  subst e2 e3 e4
  exact ⟨X, c, l, ft, ys, h6, h7, h8, h9 q p e1 hp hq⟩
end Go.Sh
namespace Go.Proofs.Ytegcjkhebecgbaa
open Go Go.Sh Go.RowKit Go.WideMaps
theorem map198 : Try.prog.underlying 198 = some (.map 257 35) := by kernel_rfl
theorem zero35 (w : World) : (zeroValue 35).run Try.prog w = .ok (.slice none 0 0) w := by
  obtain ⟨i, hi, hz, _, _⟩ := inf35
  simp [zeroValue, run_info hi, hz]
theorem goodT_key {M : Nat} {rs : List RuleL} {ws : List Int} {ents : List Ent} (h : GoodT M rs ws ents) : ∀ e ∈ ents, ∃ l, keyOf Try.prog 257 e.key = some l := fun e he => by
  obtain ⟨a, i, j, s, h1, h2, h3, h4, h5, _⟩ := h e he
  rw [h5]
  exact keyV_key h1 h2 h3 h4
def cellsTold (gm : Gram) (Y : Option Addr) (cy bt M bm : Nat) : List Value := [.int .i64 gm.nons, .int .i64 gm.toks, .slice Y gm.rules.length cy, ptrv bt, .int .i64 (M : Int), .map (some bm)]
section
variable {k : Value → World → Prop} {w0 w : World} {L : List Thing}
theorem newSSH (H : Apt w0 w L) (h : ∀ b w', Apt w0 w' (L ++ [lss (some ⟨b, 0, none⟩) 0 [] fun _ => (none, 0)]) → k (.slice (some ⟨b, 0, none⟩) 0 0) w') : Do Try.prog (sBuildSlice 35 0 []) k w :=
  do_build_of u35 inf27 (cells := []) (by decide) (by decide) (by simp [Instr.fill, madeCells]) rfl fun b w1 hb1 hb2 g hB hr => h b w1 (H.addLss g ⟨⟨[], hr _ (Nat.le_refl _), fun j hj => by simp at hj⟩, fun j hj => by simp at hj, fun i j hi => by simp at hi⟩)
end
/-- What the program's trees and rest do. -/
def TreesC (be : Nat) (gm : Gram) (ws : List Int) (M : Nat) (w0 : World) (L : List Ent → List Value → List Thing → List Thing) (N : Nat) : Prop :=
  ∀ ⦃A i j s : Nat⦄ ⦃w : World⦄ ⦃ents : List Ent⦄ ⦃has : List Value⦄ ⦃E : List Thing⦄ ⦃k : Value → World → Prop⦄, s * 10 ≤ N → A < 6 → i ≤ j → j ≤ ws.length → s ≤ 12 → GoodT M gm.rules ws ents → Apt w0 w (L ents has E) →
    (∀ w' ents' has' X c l, GoodT M gm.rules ws ents' → (∀ t ∈ ents, t ∈ ents') → Apt w0 w' (L ents' has' E) → Held ents' X l → l.length ≤ c → Firsts M (Der gm.rules ws (.inl A) i j s) l → k (.slice X l.length c) w') →
    CallK Try.prog 233 [ptrv be, .int .i64 A, .int .i64 i, .int .i64 j, .int .i64 s] k w
def RestC (be : Nat) (gm : Gram) (ws : List Int) (M : Nat) (w0 : World) (L : List Ent → List Value → List Thing → List Thing) (N : Nat) : Prop :=
  ∀ ⦃q p i j s : Nat⦄ ⦃w : World⦄ ⦃ents : List Ent⦄ ⦃has : List Value⦄ ⦃E : List Thing⦄ ⦃k : Value → World → Prop⦄, s * 10 + ((rul gm.rules q).2.length - p) + 1 ≤ N → q < gm.rules.length → p ≤ (rul gm.rules q).2.length → i ≤ j → j ≤ ws.length → s ≤ 12 → GoodT M gm.rules ws ents → Apt w0 w (L ents has E) →
    (∀ w' ents' has' X c l, GoodT M gm.rules ws ents' → (∀ t ∈ ents, t ∈ ents') → Apt w0 w' (L ents' has' E) → Held ents' X l → l.length ≤ c → Firsts M (Der gm.rules ws (.inr ((rul gm.rules q).2.drop p)) i j s) l → k (.slice X l.length c) w') →
    CallK Try.prog 298 [ptrv be, .int .i64 q, .int .i64 p, .int .i64 i, .int .i64 j, .int .i64 s] k w
end Go.Proofs.Ytegcjkhebecgbaa

/- Contract: the first trees of a nonterminal (the program's told.trees). -/
set_option linter.unusedVariables false
set_option linter.unusedSimpArgs false
set_option maxRecDepth 100000
namespace Go.Proofs.Ytegcjkhebecgbaa
open Go Go.Sh Go.RowKit Go.WideMaps
section
variable {F : Nat → Prop} {w0 : World} {gm : Gram} {X Y : Option Addr} {cx cy be bt bm M : Nat} {ws : List Int} {L : List Ent → List Value → List Thing → List Thing}
set_option maxHeartbeats 6400000 in
theorem trees_step (hM1 : 0 < M) (hM60 : M ≤ 60) (hg : goodG gm = true) (hy : RulesF F w0 Y gm.rules) (hl : ws.length ≤ 10)
    (hL : ∀ ents has E, L ents has E = bx be (cellsTold gm Y cy bt M bm) 200 :: bx bt (.slice X ws.length cx :: cellsT (spanT gm.rules ws)) 124 :: mpG bm ents has :: E) {N : Nat}
    (ihR : ∀ N', N = N' + 1 → RestC be gm ws M w0 L N') : TreesC be gm ws M w0 L N := by
  have hn6 := good_nons hg
  have hr16 := good_len hg
  have hleft6 := good_left6 hg
  have hB : ∀ {w : World} ents has (E : List Thing), Apt w0 w (bx be (cellsTold gm Y cy bt M bm) 200 :: bx bt (.slice X ws.length cx :: cellsT (spanT gm.rules ws)) 124 :: mpG bm ents has :: E) → Apt w0 w (L ents has E) := fun ents has E h => by rw [hL]; exact h
  intro A i j s w ents has E k hN hA hij hj hs hG H hk
  refine enter233 ?_
  unfold S233
  rw [hL] at H
  refine newSSH H fun b5 w1 H => ?_
  have H := H.insert 3
  simp only [List.take_succ_cons, List.take_zero, List.drop_succ_cons, List.drop_zero, List.nil_append, List.cons_append] at H
  have none_ : (∀ t, ¬ Der gm.rules ws (.inl A) i j s t) → k (.slice (some ⟨b5, 0, none⟩) 0 0) w1 := fun hno => by
    have H := H.erase 3
    simp only [List.eraseIdx_cons_zero, List.eraseIdx_cons_succ] at H
    exact hk w1 ents has _ 0 [] hG (fun t ht => ht) (hB _ _ _ H) (.inl rfl) (Nat.le_refl _) (Firsts.nil _ hno)
  by_cases hs0 : s = 0
  · subst hs0
    simp only [show (((0 : Nat) : Int) < 1) from by omega, decide_true, zq18, zq19, zq20, zq21, zq22, zq23, zq24, zq25, zq26, zq27, zq28, zq4, zq3, zq1, zq2, zq0, zq29, zq30, zq14, zq15, zq16, zq17, zq13, zq10, zq12, zq11, zq7, zq5, zq6, zq9, zq8, zq31, zq32, ite_T, ite_F, zq33, zq34, zq35, len27, len24, len35, fa26_0, fa26_1, fa26_2, fa33_0, fa33_1, fa124_0, fa124_1, fa200_0, fa200_1, fa200_2, fa200_3, Nat.reduceEqDiff]
    refine none_ fun t ht => ?_
    have := der_posC ht
    rw [cntC_zero] at this
    omega
  simp only [show ¬ ((s : Int) < 1) from by omega, decide_false, zq18, zq19, zq20, zq21, zq22, zq23, zq24, zq25, zq26, zq27, zq28, zq4, zq3, zq1, zq2, zq0, zq29, zq30, zq14, zq15, zq16, zq17, zq13, zq10, zq12, zq11, zq7, zq5, zq6, zq9, zq8, zq31, zq32, ite_T, ite_F, zq33, zq34, zq35, len27, len24, len35, fa26_0, fa26_1, fa26_2, fa33_0, fa33_1, fa124_0, fa124_1, fa200_0, fa200_1, fa200_2, fa200_3, Nat.reduceEqDiff]
  rw [ldB125 (H.box 0 rfl) rfl]
  simp only [zq18, zq19, zq20, zq21, zq22, zq23, zq24, zq25, zq26, zq27, zq28, zq4, zq3, zq1, zq2, zq0, zq29, zq30, zq14, zq15, zq16, zq17, zq13, zq10, zq12, zq11, zq7, zq5, zq6, zq9, zq8, zq31, zq32, ite_T, ite_F, zq33, zq34, zq35, len27, len24, len35, fa26_0, fa26_1, fa26_2, fa33_0, fa33_1, fa124_0, fa124_1, fa200_0, fa200_1, fa200_2, fa200_3, Nat.reduceEqDiff]
  rw [ixa122 (by omega) (by omega), ixa121 (by omega) (by omega), ixa120 (by omega) (by omega)]
  simp only [Int.toNat_natCast, zq18, zq19, zq20, zq21, zq22, zq23, zq24, zq25, zq26, zq27, zq28, zq4, zq3, zq1, zq2, zq0, zq29, zq30, zq14, zq15, zq16, zq17, zq13, zq10, zq12, zq11, zq7, zq5, zq6, zq9, zq8, zq31, zq32, ite_T, ite_F, zq33, zq34, zq35, len27, len24, len35, fa26_0, fa26_1, fa26_2, fa33_0, fa33_1, fa124_0, fa124_1, fa200_0, fa200_1, fa200_2, fa200_3, Nat.reduceEqDiff]
  rw [ldB4 (off := 0 + 1 + A * 121 + i * 11 + j) (H.box 1 rfl) (by rw [show 0 + 1 + A * 121 + i * 11 + j = A * 121 + i * 11 + j + 1 from by omega]; exact cellsT_at (by omega) (by omega) (by omega))]
  simp only [zq18, zq19, zq20, zq21, zq22, zq23, zq24, zq25, zq26, zq27, zq28, zq4, zq3, zq1, zq2, zq0, zq29, zq30, zq14, zq15, zq16, zq17, zq13, zq10, zq12, zq11, zq7, zq5, zq6, zq9, zq8, zq31, zq32, ite_T, ite_F, zq33, zq34, zq35, len27, len24, len35, fa26_0, fa26_1, fa26_2, fa33_0, fa33_1, fa124_0, fa124_1, fa200_0, fa200_1, fa200_2, fa200_3, Nat.reduceEqDiff]
  cases hT : spanT gm.rules ws A i j
  · simp only [Bool.not_false, zq18, zq19, zq20, zq21, zq22, zq23, zq24, zq25, zq26, zq27, zq28, zq4, zq3, zq1, zq2, zq0, zq29, zq30, zq14, zq15, zq16, zq17, zq13, zq10, zq12, zq11, zq7, zq5, zq6, zq9, zq8, zq31, zq32, ite_T, ite_F, zq33, zq34, zq35, len27, len24, len35, fa26_0, fa26_1, fa26_2, fa33_0, fa33_1, fa124_0, fa124_1, fa200_0, fa200_1, fa200_2, fa200_3, Nat.reduceEqDiff]
    refine none_ fun t ht => ?_
    rw [der_span hleft6 hl hj ht] at hT
    cases hT
  clear none_
  obtain ⟨s, rfl⟩ : ∃ s', s = s' + 1 := ⟨s - 1, by omega⟩
  obtain ⟨N', rfl⟩ : ∃ N', N = N' + 1 := ⟨N - 1, by omega⟩
  have ihR := ihR N' rfl
  simp only [Bool.not_true, zq18, zq19, zq20, zq21, zq22, zq23, zq24, zq25, zq26, zq27, zq28, zq4, zq3, zq1, zq2, zq0, zq29, zq30, zq14, zq15, zq16, zq17, zq13, zq10, zq12, zq11, zq7, zq5, zq6, zq9, zq8, zq31, zq32, ite_T, ite_F, zq33, zq34, zq35, len27, len24, len35, fa26_0, fa26_1, fa26_2, fa33_0, fa33_1, fa124_0, fa124_1, fa200_0, fa200_1, fa200_2, fa200_3, Nat.reduceEqDiff]
  rw [ldB24 (H.box 0 rfl) rfl]
  simp only [zq18, zq19, zq20, zq21, zq22, zq23, zq24, zq25, zq26, zq27, zq28, zq4, zq3, zq1, zq2, zq0, zq29, zq30, zq14, zq15, zq16, zq17, zq13, zq10, zq12, zq11, zq7, zq5, zq6, zq9, zq8, zq31, zq32, ite_T, ite_F, zq33, zq34, zq35, len27, len24, len35, fa26_0, fa26_1, fa26_2, fa33_0, fa33_1, fa124_0, fa124_1, fa200_0, fa200_1, fa200_2, fa200_3, Nat.reduceEqDiff]
  refine loop_to gm.rules.length 0 (fun q f w' => q ≤ gm.rules.length ∧ f 42 = .int .i64 q ∧ ∃ ents' has' X1 c1 ps1, ∃ ls : List (List Int), f 11 = .slice X1 ls.length c1 ∧ X1 ≠ none ∧ GoodT M gm.rules ws ents' ∧ (∀ t ∈ ents, t ∈ ents') ∧ Apt w0 w' (L ents' has' (lss X1 c1 ls ps1 :: E)) ∧ Rise ls ∧ Coll M (RuleD gm.rules ws A i j s q) ls ∧ ls.length ≤ 200)
    ⟨Nat.zero_le _, rfl, ents, has, _, 0, _, [], rfl, by simp, hG, fun t ht => ht, hB _ _ _ H, List.Pairwise.nil, Coll.nil (fun x hx => by obtain ⟨p, h1, _⟩ := hx; omega), by simp⟩ ?_
  clear H hG
  rintro q f w2 K hag ⟨hq, h42, ents1, has1, X1, c1, ps1, ls, h11, hX1, hG, hsub, H, hrise, hcoll, hlen⟩ hK
  rw [hL] at H
  have f40 : f 40 = .slice Y gm.rules.length cy := hag 40 (by decide)
  have f41 : f 41 = .int .i64 gm.rules.length := hag 41 (by decide)
  have f0 : f 0 = ptrv be := hag 0 (by decide)
  have f1 : f 1 = .int .i64 A := hag 1 (by decide)
  have f2 : f 2 = .int .i64 i := hag 2 (by decide)
  have f3 : f 3 = .int .i64 j := hag 3 (by decide)
  have f4 : f 4 = .int .i64 ((s + 1 : Nat) : Int) := hag 4 (by decide)
  simp only [f40, f41, f0, f1, f2, f3, f4, h42, h11, zq18, zq19, zq20, zq21, zq22, zq23, zq24, zq25, zq26, zq27, zq28, zq4, zq3, zq1, zq2, zq0, zq29, zq30, zq14, zq15, zq16, zq17, zq13, zq10, zq12, zq11, zq7, zq5, zq6, zq9, zq8, zq31, zq32, ite_T, ite_F, zq33, zq34, zq35, len27, len24, len35, fa26_0, fa26_1, fa26_2, fa33_0, fa33_1, fa124_0, fa124_1, fa200_0, fa200_1, fa200_2, fa200_3, Nat.reduceEqDiff]
  by_cases hlq : q < gm.rules.length
  case neg =>
    simp only [show ¬ ((q : Int) < gm.rules.length) from by omega, decide_false, zq18, zq19, zq20, zq21, zq22, zq23, zq24, zq25, zq26, zq27, zq28, zq4, zq3, zq1, zq2, zq0, zq29, zq30, zq14, zq15, zq16, zq17, zq13, zq10, zq12, zq11, zq7, zq5, zq6, zq9, zq8, zq31, zq32, ite_T, ite_F, zq33, zq34, zq35, len27, len24, len35, fa26_0, fa26_1, fa26_2, fa33_0, fa33_1, fa124_0, fa124_1, fa200_0, fa200_1, fa200_2, fa200_3, Nat.reduceEqDiff]
    obtain rfl : q = gm.rules.length := by omega
    refine firsts_c H 3 0 (by decide) (M := M) rfl rfl rfl hX1 rfl (by omega) fun w3 ls' ys' hp hs' H hle => ?_
    simp only [List.set_cons_zero, List.set_cons_succ] at H
    have H := (H.absorb 2 3 (by decide) rfl rfl (keyV 1000 0 0 0) (.slice X1 (ls'.take M).length c1)).erase 3
    simp only [List.set_cons_zero, List.set_cons_succ, List.eraseIdx_cons_zero, List.eraseIdx_cons_succ] at H
    exact hk w3 _ has1 X1 c1 (ls'.take M) (hG.dummy hle) (fun t ht => List.mem_cons_of_mem _ (hsub t ht)) (hB _ _ _ H) (.inr ⟨_, List.mem_cons_self .., _, _, rfl⟩) hle ((hcoll.done hp hs').congr fun t => ruleD_all)
  simp only [show ((q : Int) < gm.rules.length) from by omega, decide_true, zq18, zq19, zq20, zq21, zq22, zq23, zq24, zq25, zq26, zq27, zq28, zq4, zq3, zq1, zq2, zq0, zq29, zq30, zq14, zq15, zq16, zq17, zq13, zq10, zq12, zq11, zq7, zq5, zq6, zq9, zq8, zq31, zq32, ite_T, ite_F, zq33, zq34, zq35, len27, len24, len35, fa26_0, fa26_1, fa26_2, fa33_0, fa33_1, fa124_0, fa124_1, fa200_0, fa200_1, fa200_2, fa200_3, Nat.reduceEqDiff]
  refine join_as (fun g w' => g 42 = .int .i64 q ∧ ∃ ents' has' X1 c1 ps1, ∃ ls : List (List Int), g 11 = .slice X1 ls.length c1 ∧ X1 ≠ none ∧ GoodT M gm.rules ws ents' ∧ (∀ t ∈ ents, t ∈ ents') ∧ Apt w0 w' (L ents' has' (lss X1 c1 ls ps1 :: E)) ∧ Rise ls ∧ Coll M (RuleD gm.rules ws A i j s (q + 1)) ls ∧ ls.length ≤ 200) (fun K1 hK1 => ?_) ?_
  case refine_2 =>
    rintro g w' ⟨g42, hrest⟩
    simp only [g42, zq18, zq19, zq20, zq21, zq22, zq23, zq24, zq25, zq26, zq27, zq28, zq4, zq3, zq1, zq2, zq0, zq29, zq30, zq14, zq15, zq16, zq17, zq13, zq10, zq12, zq11, zq7, zq5, zq6, zq9, zq8, zq31, zq32, ite_T, ite_F, zq33, zq34, zq35, len27, len24, len35, fa26_0, fa26_1, fa26_2, fa33_0, fa33_1, fa124_0, fa124_1, fa200_0, fa200_1, fa200_2, fa200_3, Nat.reduceEqDiff]
    rw [i64_of (by omega) (by omega)]
    exact hK _ _ hlq ⟨hlq, rfl, hrest⟩
  obtain ⟨Z, cz, t1, t2, t3, t4⟩ := hy.row q hlq
  have hleft := good_left hg hlq
  have hR4 := good_rule hg q hlq
  obtain ⟨xl, hxl⟩ : ∃ x : Nat, (rul gm.rules q).1 = x := ⟨(rul gm.rules q).1.toNat, by omega⟩
  rw [hxl] at t1 hleft
  refine rdi (ixn24 hy.ptr hlq) ?_
  rw [ld_agg agg33 sz33 (cs := [.int .i64 xl, .slice Z (rul gm.rules q).2.length cz]) rfl (fun j hj => by
    match j, hj with
    | 0, _ => rw [add_add, Nat.add_zero]; exact H.gr.cell t1
    | 1, _ => rw [add_add]; exact H.gr.cell t2)]
  refine allocH H inf33 fun b3 w8 H => ?_
  have H := H.insert 3
  simp only [List.take_succ_cons, List.take_zero, List.drop_succ_cons, List.drop_zero, List.nil_append, List.cons_append] at H
  refine storeH H 3 rfl sz33 rfl rfl rfl fun w9 H => ?_
  simp only [List.nil_append, List.cons_append, List.set_cons_zero, List.set_cons_succ] at H
  simp only [zq18, zq19, zq20, zq21, zq22, zq23, zq24, zq25, zq26, zq27, zq28, zq4, zq3, zq1, zq2, zq0, zq29, zq30, zq14, zq15, zq16, zq17, zq13, zq10, zq12, zq11, zq7, zq5, zq6, zq9, zq8, zq31, zq32, ite_T, ite_F, zq33, zq34, zq35, len27, len24, len35, fa26_0, fa26_1, fa26_2, fa33_0, fa33_1, fa124_0, fa124_1, fa200_0, fa200_1, fa200_2, fa200_3, Nat.reduceEqDiff]
  rw [ldB3 (H.box 3 rfl) rfl]
  have H := H.erase 3
  simp only [List.eraseIdx_cons_zero, List.eraseIdx_cons_succ] at H
  simp only [zq18, zq19, zq20, zq21, zq22, zq23, zq24, zq25, zq26, zq27, zq28, zq4, zq3, zq1, zq2, zq0, zq29, zq30, zq14, zq15, zq16, zq17, zq13, zq10, zq12, zq11, zq7, zq5, zq6, zq9, zq8, zq31, zq32, ite_T, ite_F, zq33, zq34, zq35, len27, len24, len35, fa26_0, fa26_1, fa26_2, fa33_0, fa33_1, fa124_0, fa124_1, fa200_0, fa200_1, fa200_2, fa200_3, Nat.reduceEqDiff]
  by_cases hA' : xl = A
  case neg =>
    simp only [show ¬ ((xl : Int) = (A : Int)) from by omega, decide_false, Bool.not_false, zq18, zq19, zq20, zq21, zq22, zq23, zq24, zq25, zq26, zq27, zq28, zq4, zq3, zq1, zq2, zq0, zq29, zq30, zq14, zq15, zq16, zq17, zq13, zq10, zq12, zq11, zq7, zq5, zq6, zq9, zq8, zq31, zq32, ite_T, ite_F, zq33, zq34, zq35, len27, len24, len35, fa26_0, fa26_1, fa26_2, fa33_0, fa33_1, fa124_0, fa124_1, fa200_0, fa200_1, fa200_2, fa200_3, Nat.reduceEqDiff]
    exact hK1 _ _ ⟨h42, ents1, has1, X1, c1, ps1, ls, h11, hX1, hG, hsub, hB _ _ _ H, hrise, hcoll.congr fun t => ruleD_skip (by omega), hlen⟩
  subst hA'
  simp only [show ((xl : Int) = (xl : Int)) from rfl, decide_true, Bool.not_true, zq18, zq19, zq20, zq21, zq22, zq23, zq24, zq25, zq26, zq27, zq28, zq4, zq3, zq1, zq2, zq0, zq29, zq30, zq14, zq15, zq16, zq17, zq13, zq10, zq12, zq11, zq7, zq5, zq6, zq9, zq8, zq31, zq32, ite_T, ite_F, zq33, zq34, zq35, len27, len24, len35, fa26_0, fa26_1, fa26_2, fa33_0, fa33_1, fa124_0, fa124_1, fa200_0, fa200_1, fa200_2, fa200_3, Nat.reduceEqDiff]
  rw [ldB3 (H.box 0 rfl) rfl]
  simp only [zq18, zq19, zq20, zq21, zq22, zq23, zq24, zq25, zq26, zq27, zq28, zq4, zq3, zq1, zq2, zq0, zq29, zq30, zq14, zq15, zq16, zq17, zq13, zq10, zq12, zq11, zq7, zq5, zq6, zq9, zq8, zq31, zq32, ite_T, ite_F, zq33, zq34, zq35, len27, len24, len35, fa26_0, fa26_1, fa26_2, fa33_0, fa33_1, fa124_0, fa124_1, fa200_0, fa200_1, fa200_2, fa200_3, Nat.reduceEqDiff]
  have hltr : ∀ x y, RuleD gm.rules ws xl i j s q x → (∃ r, Der gm.rules ws (.inr (rul gm.rules q).2) i j s r ∧ y = (q : Int) :: r) → ltL x y := fun x y hx hy => ruleD_lt hx hy
  by_cases hfull : M ≤ ls.length
  · simp only [show ((M : Int) ≤ (ls.length : Int)) from by omega, decide_true, zq18, zq19, zq20, zq21, zq22, zq23, zq24, zq25, zq26, zq27, zq28, zq4, zq3, zq1, zq2, zq0, zq29, zq30, zq14, zq15, zq16, zq17, zq13, zq10, zq12, zq11, zq7, zq5, zq6, zq9, zq8, zq31, zq32, ite_T, ite_F, zq33, zq34, zq35, len27, len24, len35, fa26_0, fa26_1, fa26_2, fa33_0, fa33_1, fa124_0, fa124_1, fa200_0, fa200_1, fa200_2, fa200_3, Nat.reduceEqDiff]
    exact hK1 _ _ ⟨h42, ents1, has1, X1, c1, ps1, ls, h11, hX1, hG, hsub, hB _ _ _ H, hrise, (hcoll.full hrise hfull hltr).congr fun t => ruleD_step hlq hxl, hlen⟩
  simp only [show ¬ ((M : Int) ≤ (ls.length : Int)) from by omega, decide_false, zq18, zq19, zq20, zq21, zq22, zq23, zq24, zq25, zq26, zq27, zq28, zq4, zq3, zq1, zq2, zq0, zq29, zq30, zq14, zq15, zq16, zq17, zq13, zq10, zq12, zq11, zq7, zq5, zq6, zq9, zq8, zq31, zq32, ite_T, ite_F, zq33, zq34, zq35, len27, len24, len35, fa26_0, fa26_1, fa26_2, fa33_0, fa33_1, fa124_0, fa124_1, fa200_0, fa200_1, fa200_2, fa200_3, Nat.reduceEqDiff]
  rw [i64_of (by omega) (by omega), show ((s + 1 : Nat) : Int) - 1 = (s : Int) from by omega]
  refine ihR (q := q) (p := 0) (i := i) (j := j) (s := s) (by omega) hlq (Nat.zero_le _) hij hj (by omega) hG (hB _ _ _ H) fun w3 ents2 has2 Xr cr rl hG2 hsub2 H hheld hrc hrF => ?_
  rw [List.drop_zero] at hrF
  have hrl := hrF.len
  obtain ⟨ysr, hheldr⟩ := hheld.read
  simp only [zq18, zq19, zq20, zq21, zq22, zq23, zq24, zq25, zq26, zq27, zq28, zq4, zq3, zq1, zq2, zq0, zq29, zq30, zq14, zq15, zq16, zq17, zq13, zq10, zq12, zq11, zq7, zq5, zq6, zq9, zq8, zq31, zq32, ite_T, ite_F, zq33, zq34, zq35, len27, len24, len35, fa26_0, fa26_1, fa26_2, fa33_0, fa33_1, fa124_0, fa124_1, fa200_0, fa200_1, fa200_2, fa200_3, Nat.reduceEqDiff]
  have hsub' : ∀ t ∈ ents, t ∈ ents2 := fun t ht => hsub2 t (hsub t ht)
  refine loop_to rl.length 0 (fun a g w' => a ≤ rl.length ∧ g 68 = .int .i64 a ∧ g 42 = .int .i64 q ∧ ∃ X1 c1 ps1, g 11 = .slice X1 (ls ++ (rl.take a).map ((q : Int) :: ·)).length c1 ∧ X1 ≠ none ∧ Apt w0 w' (L ents2 has2 (lss X1 c1 (ls ++ (rl.take a).map ((q : Int) :: ·)) ps1 :: E)))
    ⟨Nat.zero_le _, rfl, h42, X1, c1, ps1, by simp only [List.take_zero, List.map_nil, List.append_nil]; exact h11, hX1, by simp only [List.take_zero, List.map_nil, List.append_nil]; exact H⟩ ?_
  clear H
  rintro a g w4 K2 hag2 ⟨ha, a68, a42, X2, c2, ps2, a11, hX2, H⟩ hK2
  have a67 : g 67 = .int .i64 rl.length := hag2 67 (by decide)
  have a66 : g 66 = .slice Xr rl.length cr := hag2 66 (by decide)
  have a12 : g 12 = .int .i64 q := hag2 12 (by decide)
  simp only [a67, a68, zq18, zq19, zq20, zq21, zq22, zq23, zq24, zq25, zq26, zq27, zq28, zq4, zq3, zq1, zq2, zq0, zq29, zq30, zq14, zq15, zq16, zq17, zq13, zq10, zq12, zq11, zq7, zq5, zq6, zq9, zq8, zq31, zq32, ite_T, ite_F, zq33, zq34, zq35, len27, len24, len35, fa26_0, fa26_1, fa26_2, fa33_0, fa33_1, fa124_0, fa124_1, fa200_0, fa200_1, fa200_2, fa200_3, Nat.reduceEqDiff]
  by_cases hal : a < rl.length
  case neg =>
    simp only [show ¬ ((a : Int) < rl.length) from by omega, decide_false, zq18, zq19, zq20, zq21, zq22, zq23, zq24, zq25, zq26, zq27, zq28, zq4, zq3, zq1, zq2, zq0, zq29, zq30, zq14, zq15, zq16, zq17, zq13, zq10, zq12, zq11, zq7, zq5, zq6, zq9, zq8, zq31, zq32, ite_T, ite_F, zq33, zq34, zq35, len27, len24, len35, fa26_0, fa26_1, fa26_2, fa33_0, fa33_1, fa124_0, fa124_1, fa200_0, fa200_1, fa200_2, fa200_3, Nat.reduceEqDiff]
    obtain rfl : a = rl.length := by omega
    rw [List.take_of_length_le (Nat.le_refl _)] at a11 H
    have hF2 := hrF.map (q : Int)
    refine hK1 _ _ ⟨a42, ents2, has2, X2, c2, ps2, _, a11, hX2, hG2, hsub', H, ?_, ?_, ?_⟩
    · refine List.pairwise_append.2 ⟨hrise, hF2.rise, fun x hx y hy => hltr x y (hcoll.mem x hx) (hF2.mem y hy)⟩
    · refine (hcoll.append hF2 fun x hx hx' => ltL_irrefl x (hltr x x hx hx')).congr fun t => ruleD_step hlq hxl
    · rw [List.length_append, List.length_map]
      omega
  simp only [show ((a : Int) < rl.length) from by omega, decide_true, zq18, zq19, zq20, zq21, zq22, zq23, zq24, zq25, zq26, zq27, zq28, zq4, zq3, zq1, zq2, zq0, zq29, zq30, zq14, zq15, zq16, zq17, zq13, zq10, zq12, zq11, zq7, zq5, zq6, zq9, zq8, zq31, zq32, ite_T, ite_F, zq33, zq34, zq35, len27, len24, len35, fa26_0, fa26_1, fa26_2, fa33_0, fa33_1, fa124_0, fa124_1, fa200_0, fa200_1, fa200_2, fa200_3, Nat.reduceEqDiff]
  simp only [a66, a12, a11, zq18, zq19, zq20, zq21, zq22, zq23, zq24, zq25, zq26, zq27, zq28, zq4, zq3, zq1, zq2, zq0, zq29, zq30, zq14, zq15, zq16, zq17, zq13, zq10, zq12, zq11, zq7, zq5, zq6, zq9, zq8, zq31, zq32, ite_T, ite_F, zq33, zq34, zq35, len27, len24, len35, fa26_0, fa26_1, fa26_2, fa33_0, fa33_1, fa124_0, fa124_1, fa200_0, fa200_1, fa200_2, fa200_3, Nat.reduceEqDiff]
  rw [hL] at H
  have hread := hheldr H 2 rfl
  obtain ⟨tb1, tb2, tb3⟩ := hread.row a hal
  have tb3 := tb3.is
  have hbl : (rgt rl a).length = s := der_len (hrF.mem _ (rgt_mem hal))
  refine rdi (ixn35 hread.ptr hal) (rdi (ld27 tb1) ?_)
  have hll2 : (ls ++ (rl.take a).map ((q : Int) :: ·)).length ≤ 300 := by
    rw [List.length_append, List.length_map, List.length_take]
    omega
  refine do_build_of u27 inf3 (cells := [.int .i64 (q : Int)]) (by decide) (by decide) (by simp [Instr.fill, madeCells, Value.cells, rng1]) rfl fun b1 w6 hb1 hb2 g6 hB6 hr6 => ?_
  have H := H.addOwn (xs := [(q : Int)]) g6 (hr6 _ (Nat.le_refl _))
  have H := H.insert 4
  simp only [List.take_succ_cons, List.take_zero, List.drop_succ_cons, List.drop_zero, List.nil_append, List.cons_append] at H
  refine apH H 4 rfl (tb3.gr g6) rfl rfl (by simp; omega) fun X7 c7 w7 H => ?_
  simp only [List.set_cons_zero, List.set_cons_succ] at H
  refine pushSSH H 3 4 (by decide) rfl rfl rfl rfl (by omega) fun t8 X8 c8 w8 ps8 H => ?_
  simp only [List.set_cons_zero, List.set_cons_succ] at H
  have H := H.erase 4
  simp only [List.eraseIdx_cons_zero, List.eraseIdx_cons_succ] at H
  have hX8 : X8 ≠ none := fun e => by
    have := (H.lssi 3 rfl).ptr (by rw [List.length_append, List.length_singleton]; omega)
    rw [e] at this
    cases this
  rw [i64_of (by omega) (by omega)]
  have e : ls ++ (rl.take (a + 1)).map ((q : Int) :: ·) = ls ++ (rl.take a).map ((q : Int) :: ·) ++ [[(q : Int)] ++ rgt rl a] := by
    rw [take_snoc_rgt hal, List.map_append, List.append_assoc]
    rfl
  refine hK2 _ _ hal ⟨hal, rfl, a42, X8, c8, ps8, ?_, hX8, ?_⟩
  · rw [e]
    rfl
  · rw [e]
    exact hB _ _ _ H
end
end Go.Proofs.Ytegcjkhebecgbaa

/- Contracts: how few changes make a symbol, a row of symbols (the program's one, rest). -/
set_option linter.unusedVariables false
set_option linter.unusedSimpArgs false
set_option maxRecDepth 100000
namespace Go.Proofs.Ytegcjkhebecgbaa
open Go Go.Sh Go.RowKit
end Go.Proofs.Ytegcjkhebecgbaa

/- Contract: the program's table of mending (mends). -/
set_option linter.unusedVariables false
set_option linter.unusedSimpArgs false
set_option maxRecDepth 100000
namespace Go.Proofs.Ytegcjkhebecgbaa
open Go Go.Sh Go.RowKit
end Go.Proofs.Ytegcjkhebecgbaa

/- Contract: the program's table of least costs (costs). -/
set_option linter.unusedVariables false
set_option linter.unusedSimpArgs false
set_option maxRecDepth 100000
namespace Go.Sh
open Go
end Go.Sh
namespace Go.Proofs.Ytegcjkhebecgbaa
open Go Go.Sh Go.RowKit
end Go.Proofs.Ytegcjkhebecgbaa

/- Contracts: the least tree with the least cost, the least row of trees (the program's least, leastRest). -/
set_option linter.unusedVariables false
set_option linter.unusedSimpArgs false
set_option maxRecDepth 100000
namespace Go.Sh
open Go
end Go.Sh
namespace Go.Proofs.Ytegcjkhebecgbaa
open Go Go.Sh Go.RowKit Go.WideMaps
section
variable {F : Nat → Prop} {w0 : World} {gm : Gram} {Y X Q : Option Addr} {cy cx cq bc bm nons : Nat} {ws cs : List Int} {T : CT} {M : List Ent → List Value → List Thing → List Thing}
end
end Go.Proofs.Ytegcjkhebecgbaa

/- Contract: the least tree with the least cost (the program's least). -/
set_option linter.unusedVariables false
set_option linter.unusedSimpArgs false
set_option maxRecDepth 100000
namespace Go.Proofs.Ytegcjkhebecgbaa
open Go Go.Sh Go.RowKit Go.WideMaps
theorem ld_aggS {t n : Nat} {S : WS} {k : Value → Prop} {b e : Nat} {cs : List Value} (ht : agg Try.prog t) (hs : szOf Try.prog t n) (hn : cs.length = n) (hb : ∀ w, S.S w → Box w b cs e) : Rd Try.prog S (sLoad t (.pointer (some ⟨b, 0, none⟩))) k = k (.agg cs.toArray) :=
  rd_loadAgg ht hs hn fun w' hw j hj => by
    rw [zq34, Nat.zero_add, (hb w' hw).cell]
    exact List.getElem?_eq_getElem hj
section
variable {F : Nat → Prop} {w0 : World} {gm : Gram} {Y X Q : Option Addr} {cy cx cq bc bm nons : Nat} {ws cs : List Int} {T : CT} {M : List Ent → List Value → List Thing → List Thing}
end
end Go.Proofs.Ytegcjkhebecgbaa

/- Contract: the first lists of trees of a rest (the program's told.rest). -/
set_option linter.unusedVariables false
set_option linter.unusedSimpArgs false
set_option maxRecDepth 100000
namespace Go.Proofs.Ytegcjkhebecgbaa
open Go Go.Sh Go.RowKit Go.WideMaps
section
variable {F : Nat → Prop} {w0 : World} {gm : Gram} {X Y : Option Addr} {cx cy be bt bm M : Nat} {ws : List Int} {L : List Ent → List Value → List Thing → List Thing}
set_option maxHeartbeats 12800000 in
theorem rest_step (hM1 : 0 < M) (hM60 : M ≤ 60) (hg : goodG gm = true) (hy : RulesF F w0 Y gm.rules) (hX : Ints w0 X ws) (hl : ws.length ≤ 10) (hw : ∀ t ∈ ws, 0 ≤ t ∧ t ≤ 100)
    (hL : ∀ ents has E, L ents has E = bx be (cellsTold gm Y cy bt M bm) 200 :: bx bt (.slice X ws.length cx :: cellsT (spanT gm.rules ws)) 124 :: mpG bm ents has :: E) {N : Nat}
    (ihT : TreesC be gm ws M w0 L N) (ihR : RestC be gm ws M w0 L N) : RestC be gm ws M w0 L (N + 1) := by
  have hn6 := good_nons hg
  have hr16 := good_len hg
  have hleft6 := good_left6 hg
  have hB : ∀ {w : World} ents has (E : List Thing), Apt w0 w (bx be (cellsTold gm Y cy bt M bm) 200 :: bx bt (.slice X ws.length cx :: cellsT (spanT gm.rules ws)) 124 :: mpG bm ents has :: E) → Apt w0 w (L ents has E) := fun ents has E h => by rw [hL]; exact h
  intro q p i j s w ents has E k hN hq hp hij hj hs hG H hk
  obtain ⟨Z, cz, t1, t2, t3, t4⟩ := hy.row q hq
  have hright := good_right hg hq
  have hR4 := good_rule hg q hq
  refine enter298 ?_
  unfold S298
  rw [hL] at H
  simp only [zq18, zq19, zq20, zq21, zq22, zq23, zq24, zq25, zq26, zq27, zq28, zq4, zq3, zq1, zq2, zq0, zq29, zq30, zq14, zq15, zq16, zq17, zq13, zq10, zq12, zq11, zq7, zq5, zq6, zq9, zq8, zq31, zq32, ite_T, ite_F, zq33, zq34, zq35, len27, len24, len35, fa26_0, fa26_1, fa26_2, fa33_0, fa33_1, fa124_0, fa124_1, fa200_0, fa200_1, fa200_2, fa200_3, Nat.reduceEqDiff]
  rw [ldB24 (H.box 0 rfl) rfl]
  refine rdi (ixn24 hy.ptr hq) ?_
  rw [fa33_1, add_add]
  refine rdi (ld27 (H.gr.cell t2)) ?_
  have hsub := t4.is.sub (l := p) (c := cz) hp t3 ((rul gm.rules q).2.length - p)
  rw [List.take_of_length_le (by rw [List.length_drop]; omega)] at hsub
  refine rdi (sll27 (by omega) (by omega)) ?_
  rw [Int.toNat_natCast]
  have hdl : ((rul gm.rules q).2.drop p).length = (rul gm.rules q).2.length - p := List.length_drop
  have hdr : ∀ x ∈ (rul gm.rules q).2.drop p, x < 6 ∧ -100 ≤ x := fun x hx => by
    have := hright x (List.mem_of_mem_drop hx)
    omega
  have hnext : (rul gm.rules q).2.drop (p + 1) = ((rul gm.rules q).2.drop p).drop 1 := by rw [List.drop_drop]
  rw [← hdl]
  have nothing : ∀ {w : World} {ents' : List Ent} {has' : List Value}, (∀ t, ¬ Der gm.rules ws (.inr ((rul gm.rules q).2.drop p)) i j s t) → GoodT M gm.rules ws ents' → (∀ t ∈ ents, t ∈ ents') → Apt w0 w (L ents' has' E) → k (.slice none 0 0) w := fun {w ents' has'} hno hG hs H =>
    hk w ents' has' none 0 [] hG hs H (.inl rfl) (Nat.le_refl _) (Firsts.nil _ hno)
  generalize hxs : (rul gm.rules q).2.drop p = xs at *
  simp only [zq18, zq19, zq20, zq21, zq22, zq23, zq24, zq25, zq26, zq27, zq28, zq4, zq3, zq1, zq2, zq0, zq29, zq30, zq14, zq15, zq16, zq17, zq13, zq10, zq12, zq11, zq7, zq5, zq6, zq9, zq8, zq31, zq32, ite_T, ite_F, zq33, zq34, zq35, len27, len24, len35, fa26_0, fa26_1, fa26_2, fa33_0, fa33_1, fa124_0, fa124_1, fa200_0, fa200_1, fa200_2, fa200_3, Nat.reduceEqDiff]
  cases xs with
  | nil =>
    simp only [List.length_nil, show (((0 : Nat) : Int) = 0) from rfl, decide_true, zq18, zq19, zq20, zq21, zq22, zq23, zq24, zq25, zq26, zq27, zq28, zq4, zq3, zq1, zq2, zq0, zq29, zq30, zq14, zq15, zq16, zq17, zq13, zq10, zq12, zq11, zq7, zq5, zq6, zq9, zq8, zq31, zq32, ite_T, ite_F, zq33, zq34, zq35, len27, len24, len35, fa26_0, fa26_1, fa26_2, fa33_0, fa33_1, fa124_0, fa124_1, fa200_0, fa200_1, fa200_2, fa200_3, Nat.reduceEqDiff]
    by_cases hij : i = j ∧ s = 0
    · obtain ⟨rfl, rfl⟩ := hij
      simp only [show (((0 : Nat) : Int) = 0) from rfl, decide_true, zq18, zq19, zq20, zq21, zq22, zq23, zq24, zq25, zq26, zq27, zq28, zq4, zq3, zq1, zq2, zq0, zq29, zq30, zq14, zq15, zq16, zq17, zq13, zq10, zq12, zq11, zq7, zq5, zq6, zq9, zq8, zq31, zq32, ite_T, ite_F, zq33, zq34, zq35, len27, len24, len35, fa26_0, fa26_1, fa26_2, fa33_0, fa33_1, fa124_0, fa124_1, fa200_0, fa200_1, fa200_2, fa200_3, Nat.reduceEqDiff]
      refine do_build_of u27 inf3 (cells := []) (by decide) (by decide) (by simp [Instr.fill, madeCells]) rfl fun b1 w1 hb1 hb2 g1 hB1 hr1 => ?_
      have H := H.step g1
      refine do_build_of u35 inf27 (cells := [.slice (some ⟨b1, 0, none⟩) 0 0]) (by decide) (by decide) (by simp [Instr.fill, madeCells, Value.cells, rng1]) rfl fun b2 w2 hb3 hb4 g2 hB2 hr2 => ?_
      have hrow := hr2 _ (Nat.le_refl _)
      obtain ⟨ftn, ysn, H⟩ := H.addRdf (ls := [[]]) g2 (IssF.of hrow.src (Slots.single (x := []) (Nat.le_refl _) ⟨⟨by simp, fun h => by simp at h, fun j h => by simp at h⟩, fun h => by simp at h⟩) (by simp) fun _ => row_foot hrow (by omega))
      have H := H.insert 3
      simp only [List.take_succ_cons, List.take_zero, List.drop_succ_cons, List.drop_zero, List.nil_append, List.cons_append] at H
      have H := (H.absorb 2 3 (by decide) rfl rfl (keyV 1000 0 0 0) (.slice (some ⟨b2, 0, none⟩) 1 1)).erase 3
      simp only [List.set_cons_zero, List.set_cons_succ, List.eraseIdx_cons_zero, List.eraseIdx_cons_succ] at H
      exact hk w2 _ has (some ⟨b2, 0, none⟩) 1 [[]] (hG.dummy (l := [[]]) (Nat.le_refl _)) (fun t ht => List.mem_cons_of_mem _ ht) (hB _ _ _ H) (.inr ⟨_, List.mem_cons_self .., _, _, rfl⟩) (Nat.le_refl _) (der_row0 hM1 ⟨rfl, rfl⟩)
    · have hno : ∀ t, ¬ Der gm.rules ws (.inr []) i j s t := fun t ht => by
        have := der_nil.1 ht
        exact hij ⟨this.1, this.2.1⟩
      by_cases h1 : i = j
      · simp only [show ((i : Int) = j) from by omega, show ¬ ((s : Int) = 0) from by omega, decide_true, decide_false, zq18, zq19, zq20, zq21, zq22, zq23, zq24, zq25, zq26, zq27, zq28, zq4, zq3, zq1, zq2, zq0, zq29, zq30, zq14, zq15, zq16, zq17, zq13, zq10, zq12, zq11, zq7, zq5, zq6, zq9, zq8, zq31, zq32, ite_T, ite_F, zq33, zq34, zq35, len27, len24, len35, fa26_0, fa26_1, fa26_2, fa33_0, fa33_1, fa124_0, fa124_1, fa200_0, fa200_1, fa200_2, fa200_3, Nat.reduceEqDiff]
        exact nothing hno hG (fun t ht => ht) (hB _ _ _ H)
      · simp only [show ¬ ((i : Int) = j) from by omega, decide_false, zq18, zq19, zq20, zq21, zq22, zq23, zq24, zq25, zq26, zq27, zq28, zq4, zq3, zq1, zq2, zq0, zq29, zq30, zq14, zq15, zq16, zq17, zq13, zq10, zq12, zq11, zq7, zq5, zq6, zq9, zq8, zq31, zq32, ite_T, ite_F, zq33, zq34, zq35, len27, len24, len35, fa26_0, fa26_1, fa26_2, fa33_0, fa33_1, fa124_0, fa124_1, fa200_0, fa200_1, fa200_2, fa200_3, Nat.reduceEqDiff]
        exact nothing hno hG (fun t ht => ht) (hB _ _ _ H)
  | cons x xs =>
    have hpl : p < (rul gm.rules q).2.length := by rw [List.length_cons] at hdl; omega
    simp only [show ¬ (((x :: xs).length : Int) = 0) from by rw [List.length_cons]; omega, decide_false, zq18, zq19, zq20, zq21, zq22, zq23, zq24, zq25, zq26, zq27, zq28, zq4, zq3, zq1, zq2, zq0, zq29, zq30, zq14, zq15, zq16, zq17, zq13, zq10, zq12, zq11, zq7, zq5, zq6, zq9, zq8, zq31, zq32, ite_T, ite_F, zq33, zq34, zq35, len27, len24, len35, fa26_0, fa26_1, fa26_2, fa33_0, fa33_1, fa184_0, fa184_1, fa124_0, fa124_1, fa200_0, fa200_1, fa200_2, fa200_3, fa274_0, fa274_1, fa274_2, Nat.reduceEqDiff]
    rw [ldB125 (H.box 0 rfl) rfl]
    refine sequence_c hl hw (x :: xs) (H.box 1 rfl) (hX.gr H.gr) (hsub.gr H.gr) (by omega) hdr hij hj ?_
    cases hft : fitsT (spanT gm.rules ws) ws (x :: xs) i j
    · simp only [Bool.not_false, zq18, zq19, zq20, zq21, zq22, zq23, zq24, zq25, zq26, zq27, zq28, zq4, zq3, zq1, zq2, zq0, zq29, zq30, zq14, zq15, zq16, zq17, zq13, zq10, zq12, zq11, zq7, zq5, zq6, zq9, zq8, zq31, zq32, ite_T, ite_F, zq33, zq34, zq35, len27, len24, len35, fa26_0, fa26_1, fa26_2, fa33_0, fa33_1, fa124_0, fa124_1, fa200_0, fa200_1, fa200_2, fa200_3, Nat.reduceEqDiff]
      refine nothing (fun t ht => ?_) hG (fun t ht => ht) (hB _ _ _ H)
      rw [der_fits hleft6 hl hj ht] at hft
      cases hft
    simp only [Bool.not_true, zq18, zq19, zq20, zq21, zq22, zq23, zq24, zq25, zq26, zq27, zq28, zq4, zq3, zq1, zq2, zq0, zq29, zq30, zq14, zq15, zq16, zq17, zq13, zq10, zq12, zq11, zq7, zq5, zq6, zq9, zq8, zq31, zq32, ite_T, ite_F, zq33, zq34, zq35, len27, len24, len35, fa26_0, fa26_1, fa26_2, fa33_0, fa33_1, fa124_0, fa124_1, fa200_0, fa200_1, fa200_2, fa200_3, Nat.reduceEqDiff]
    have hxx := hdr x (List.mem_cons_self ..)
    refine rdi (ix27_0 (fun _ => hsub.ptr (by simp)) (by simp)) (rdi (ld3 ((hsub.gr H.gr).cell 0 (by simp))) ?_)
    simp only [List.getD_cons_zero, zq18, zq19, zq20, zq21, zq22, zq23, zq24, zq25, zq26, zq27, zq28, zq4, zq3, zq1, zq2, zq0, zq29, zq30, zq14, zq15, zq16, zq17, zq13, zq10, zq12, zq11, zq7, zq5, zq6, zq9, zq8, zq31, zq32, ite_T, ite_F, zq33, zq34, zq35, len27, len24, len35, fa26_0, fa26_1, fa26_2, fa33_0, fa33_1, fa124_0, fa124_1, fa200_0, fa200_1, fa200_2, fa200_3, Nat.reduceEqDiff]
    rw [List.drop_one, List.tail_cons] at hnext
    by_cases hx0 : x < 0
    · simp only [hx0, decide_true, zq18, zq19, zq20, zq21, zq22, zq23, zq24, zq25, zq26, zq27, zq28, zq4, zq3, zq1, zq2, zq0, zq29, zq30, zq14, zq15, zq16, zq17, zq13, zq10, zq12, zq11, zq7, zq5, zq6, zq9, zq8, zq31, zq32, ite_T, ite_F, zq33, zq34, zq35, len27, len24, len35, fa26_0, fa26_1, fa26_2, fa33_0, fa33_1, fa124_0, fa124_1, fa200_0, fa200_1, fa200_2, fa200_3, Nat.reduceEqDiff]
      rw [i64_of (n := (p : Int) + 1) (by omega) (by omega), i64_of (n := (i : Int) + 1) (by omega) (by omega)]
      rw [fits_tok hx0] at hft
      simp only [Bool.and_eq_true, decide_eq_true_eq] at hft
      refine ihR (q := q) (p := p + 1) (i := i + 1) (j := j) (s := s) (by omega) hq hpl (by omega) hj hs hG (hB _ _ _ H) fun w2 ents2 has2 X2 c2 l2 hG2 hs2 H hheld hle hF2 => ?_
      rw [hnext] at hF2
      exact hk w2 ents2 has2 X2 c2 l2 hG2 hs2 H hheld hle (hF2.congr fun t => (der_tok hx0).trans ⟨fun h => h.2.2, fun h => ⟨hft.1, hft.2.1, h⟩⟩)
    simp only [hx0, decide_false, zq18, zq19, zq20, zq21, zq22, zq23, zq24, zq25, zq26, zq27, zq28, zq4, zq3, zq1, zq2, zq0, zq29, zq30, zq14, zq15, zq16, zq17, zq13, zq10, zq12, zq11, zq7, zq5, zq6, zq9, zq8, zq31, zq32, ite_T, ite_F, zq33, zq34, zq35, len27, len24, len35, fa26_0, fa26_1, fa26_2, fa33_0, fa33_1, fa124_0, fa124_1, fa200_0, fa200_1, fa200_2, fa200_3, Nat.reduceEqDiff]
    obtain ⟨A, rfl⟩ : ∃ A : Nat, x = A := ⟨x.toNat, by omega⟩
    rw [i64_of (n := (q : Int) * 5) (by omega) (by omega), i64_of (n := (q : Int) * 5 + (p : Int)) (by omega) (by omega)]
    rw [bd257]
    have hkey : Value.agg #[.int .i64 ((q : Int) * 5 + (p : Int)), .int .i64 (i : Int), .int .i64 (j : Int), .int .i64 (s : Int), .int .i64 0] = keyV (q * 5 + p) i j s := by
      unfold keyV
      rw [show ((q * 5 + p : Nat) : Int) = (q : Int) * 5 + (p : Int) from by omega]
    refine allocH H inf257' fun b3 w2 H => ?_
    have H := H.insert 3
    simp only [List.take_succ_cons, List.take_zero, List.drop_succ_cons, List.drop_zero, List.nil_append, List.cons_append] at H
    refine storeH H 3 rfl sz257 rfl rfl rfl fun w3 H => ?_
    simp only [List.nil_append, List.cons_append, List.set_cons_zero, List.set_cons_succ] at H
    have H := H.drew
    rw [ldB198 (H.box 0 rfl) rfl, ldB_agg agg257 sz257 rfl (H.box 3 rfl)]
    obtain ⟨lx, hlx⟩ := keyV_key (a := q * 5 + p) (b := i) (c := j) (d := s) (by omega) (by omega) (by omega) (by omega)
    have found : ∀ {w : World} {ents' : List Ent} {has' : List Value}, GoodT M gm.rules ws ents' → (∀ t ∈ ents, t ∈ ents') → Apt w0 w (bx be (cellsTold gm Y cy bt M bm) 200 :: bx bt (.slice X ws.length cx :: cellsT (spanT gm.rules ws)) 124 :: mpG bm ents' has' :: E) → ∀ e ∈ ents', e.key = keyV (q * 5 + p) i j s → k e.val w := fun {w ents' has'} hG hs H e he hke => by
      obtain ⟨X2, c2, l2, ft, ys2, h1, h2, h3, h4⟩ := hG.get he hke (by omega) (by omega)
      rw [hxs] at h4
      rw [h1]
      exact hk w ents' has' X2 c2 l2 hG hs (hB _ _ _ H) (.inr ⟨e, he, ft, ys2, h2⟩) h3 h4
    refine lookupG H 2 rfl map198 arr257.law (x := keyV (q * 5 + p) i j s) hlx (goodT_key hG) zero35 true (fun hno => ?_) fun e he hke hP => ?_
    case refine_2 =>
      simp only [if_true, zq1, zq2, zq29]
      have H := H.erase 3
      simp only [List.eraseIdx_cons_zero, List.eraseIdx_cons_succ] at H
      exact found hG (fun t ht => ht) H e he hke
    clear hno
    simp only [if_true, zq1, zq2, zq30]
    refine newSSH H fun b5 w5 H => ?_
    have H := H.insert 3
    simp only [List.take_succ_cons, List.take_zero, List.drop_succ_cons, List.drop_zero, List.nil_append, List.cons_append] at H
    have hxl : xs.length + 1 = (rul gm.rules q).2.length - p := by rw [List.length_cons] at hdl; exact hdl
    have hlx4 : xs.length ≤ 4 := by rw [List.length_cons] at hdl; omega
    refine loop_to (j + 1 - i) 0 (fun m f w' => m ≤ j + 1 - i ∧ f 19 = .int .i64 ((i + m : Nat) : Int) ∧ ∃ ents' has' X1 c1 ps1, ∃ ls : List (List Int), f 18 = .slice X1 ls.length c1 ∧ X1 ≠ none ∧ GoodT M gm.rules ws ents' ∧ (∀ t ∈ ents, t ∈ ents') ∧ Apt w0 w' (L ents' has' (lss X1 c1 ls ps1 :: bx b3 [.int .i64 ((q : Int) * 5 + (p : Int)), .int .i64 i, .int .i64 j, .int .i64 s, .int .i64 0] 257 :: E)) ∧ Coll M (SeenD gm.rules ws (A : Int) xs i j s m 0) ls ∧ ls.length ≤ m * (s * M))
      ⟨Nat.zero_le _, rfl, ents, has, _, 0, _, [], rfl, by simp, hG, fun t ht => ht, hB _ _ _ H, Coll.nil (fun x hx => seen_none hx), by simp⟩ ?_
    clear H hG
    rintro m f w4 K hag ⟨hm, h19, ents1, has1, X1, c1, ps1, ls, h18, hX1, hG, hsub1, H, hcoll, hlen⟩ hK
    have hms : m * (s * M) ≤ 11 * (12 * 60) := Nat.mul_le_mul (by omega) (Nat.mul_le_mul hs hM60)
    rw [hL] at H
    have f0 : f 0 = ptrv be := hag 0 (by decide)
    have f1 : f 1 = .int .i64 q := hag 1 (by decide)
    have f2 : f 2 = .int .i64 p := hag 2 (by decide)
    have f3 : f 3 = .int .i64 i := hag 3 (by decide)
    have f4 : f 4 = .int .i64 j := hag 4 (by decide)
    have f5 : f 5 = .int .i64 s := hag 5 (by decide)
    have f13 : f 13 = .slice (sub Z p cz 1) (((A : Int) :: xs).length) (cz - p) := hag 13 (by decide)
    have f14 : f 14 = .int .i64 (A : Int) := hag 14 (by decide)
    have f15 : f 15 = ptrv b3 := hag 15 (by decide)
    simp only [f0, f4, f13, f15, h18, h19, zq18, zq19, zq20, zq21, zq22, zq23, zq24, zq25, zq26, zq27, zq28, zq4, zq3, zq1, zq2, zq0, zq29, zq30, zq14, zq15, zq16, zq17, zq13, zq10, zq12, zq11, zq7, zq5, zq6, zq9, zq8, zq31, zq32, ite_T, ite_F, zq33, zq34, zq35, len27, len24, len35, fa26_0, fa26_1, fa26_2, fa33_0, fa33_1, fa124_0, fa124_1, fa200_0, fa200_1, fa200_2, fa200_3, Nat.reduceEqDiff]
    by_cases hle : i + m ≤ j
    case neg =>
      simp only [show ¬ (((i + m : Nat) : Int) ≤ j) from by omega, decide_false, zq18, zq19, zq20, zq21, zq22, zq23, zq24, zq25, zq26, zq27, zq28, zq4, zq3, zq1, zq2, zq0, zq29, zq30, zq14, zq15, zq16, zq17, zq13, zq10, zq12, zq11, zq7, zq5, zq6, zq9, zq8, zq31, zq32, ite_T, ite_F, zq33, zq34, zq35, len27, len24, len35, fa26_0, fa26_1, fa26_2, fa33_0, fa33_1, fa124_0, fa124_1, fa200_0, fa200_1, fa200_2, fa200_3, Nat.reduceEqDiff]
      obtain rfl : m = j + 1 - i := by omega
      have H := H.drew
      refine ⟨fun w' => Box w' be (cellsTold gm Y cy bt M bm) 200 ∧ Box w' b3 [.int .i64 ((q : Int) * 5 + (p : Int)), .int .i64 i, .int .i64 j, .int .i64 s, .int .i64 0] 257, ⟨H.box 0 rfl, H.box 4 rfl⟩, ?_⟩
      refine rdi (ldS198 (a := ⟨be, 0 + 5, none⟩) fun w' hw' => (hw'.1.cell (0 + 5)).trans rfl) ?_
      refine rdi (ld_aggS agg257 sz257 rfl fun w' hw' => hw'.2) ?_
      refine firsts_c H 3 0 (by decide) (M := M) rfl rfl rfl hX1 rfl (by omega) fun w6 ls' ys' hp' hs' H hle' => ?_
      simp only [List.set_cons_zero, List.set_cons_succ] at H
      refine ⟨⟨H.box 0 rfl, H.box 4 rfl⟩, ?_⟩
      have hF := hcoll.done hp' hs'
      have hF2 : Firsts M (Der gm.rules ws (.inr ((rul gm.rules q).2.drop p)) i j s) (ls'.take M) := by
        rw [hxs]
        exact hF.congr fun t => seen_all hx0 (by omega)
      refine updateG H 2 3 (by decide) rfl rfl map198 arr257.law (x := keyV (q * 5 + p) i j s) hlx (goodT_key hG) fun w7 gx H => ?_
      have H := H.erase 3
      simp only [List.set_cons_zero, List.set_cons_succ, List.eraseIdx_cons_zero, List.eraseIdx_cons_succ] at H
      have H := H.drew
      rw [ldB198 (H.box 0 rfl) rfl, ldB_agg agg257 sz257 rfl (H.box 3 rfl)]
      have hG7 := hG.real (X := X1) (ft := Foot X1 ps1 ls.length) (ys := ys') hle' (q := q) (p := p) (i := i) (j := j) (s := s) (by omega) (by omega) (by omega) (by omega) (by omega) hF2
      refine lookupG H 2 rfl map198 arr257.law (x := keyV (q * 5 + p) i j s) hlx (goodT_key hG7) zero35 false (fun hno => absurd (List.mem_cons_self ..) hno) fun e he hke hP => ?_
      have H := H.erase 3
      simp only [List.eraseIdx_cons_zero, List.eraseIdx_cons_succ] at H
      exact found hG7 (fun t ht => List.mem_cons_of_mem _ (hsub1 t ht)) H e he hke
    simp only [show (((i + m : Nat) : Int) ≤ j) from by omega, decide_true, zq18, zq19, zq20, zq21, zq22, zq23, zq24, zq25, zq26, zq27, zq28, zq4, zq3, zq1, zq2, zq0, zq29, zq30, zq14, zq15, zq16, zq17, zq13, zq10, zq12, zq11, zq7, zq5, zq6, zq9, zq8, zq31, zq32, ite_T, ite_F, zq33, zq34, zq35, len27, len24, len35, fa26_0, fa26_1, fa26_2, fa33_0, fa33_1, fa124_0, fa124_1, fa200_0, fa200_1, fa200_2, fa200_3, Nat.reduceEqDiff]
    have H := H.drew
    refine join_as (fun g w' => g 19 = .int .i64 ((i + m : Nat) : Int) ∧ ∃ ents' has' X1 c1 ps1, ∃ ls : List (List Int), g 18 = .slice X1 ls.length c1 ∧ X1 ≠ none ∧ GoodT M gm.rules ws ents' ∧ (∀ t ∈ ents, t ∈ ents') ∧ Apt w0 w' (L ents' has' (lss X1 c1 ls ps1 :: bx b3 [.int .i64 ((q : Int) * 5 + (p : Int)), .int .i64 i, .int .i64 j, .int .i64 s, .int .i64 0] 257 :: E)) ∧ Coll M (SeenD gm.rules ws (A : Int) xs i j s (m + 1) 0) ls ∧ ls.length ≤ (m + 1) * (s * M)) (fun K1 hK1 => ?_) ?_
    case refine_2 =>
      rintro g w' ⟨g19, hrest⟩
      simp only [g19, zq18, zq19, zq20, zq21, zq22, zq23, zq24, zq25, zq26, zq27, zq28, zq4, zq3, zq1, zq2, zq0, zq29, zq30, zq14, zq15, zq16, zq17, zq13, zq10, zq12, zq11, zq7, zq5, zq6, zq9, zq8, zq31, zq32, ite_T, ite_F, zq33, zq34, zq35, len27, len24, len35, fa26_0, fa26_1, fa26_2, fa33_0, fa33_1, fa124_0, fa124_1, fa200_0, fa200_1, fa200_2, fa200_3, Nat.reduceEqDiff]
      rw [i64_of (by omega) (by omega)]
      exact hK _ _ (by omega) ⟨by omega, by show Value.int .i64 (((i + m : Nat) : Int) + 1) = _; congr 1, hrest⟩
    rw [ldB125 (H.box 0 rfl) rfl]
    refine rdi (sll27 (by omega) (by rw [List.length_cons]; omega)) ?_
    rw [show (1 : Int).toNat = 1 from rfl, List.length_cons, Nat.add_sub_cancel]
    have hsubx := hsub.sub (l := 1) (c := cz - p) (by simp) (by omega) xs.length
    rw [List.drop_one, List.tail_cons, List.take_length] at hsubx
    refine sequence_c hl hw xs (H.box 1 rfl) (hX.gr H.gr) (hsubx.gr H.gr) (by omega) (fun x hx => hdr x (List.mem_cons_of_mem _ hx)) (by omega) hj ?_
    have hmul : (m + 1) * (s * M) = m * (s * M) + s * M := by rw [Nat.add_mul, Nat.one_mul]
    cases hft1 : fitsT (spanT gm.rules ws) ws xs (i + m) j
    · simp only [Bool.not_false, zq18, zq19, zq20, zq21, zq22, zq23, zq24, zq25, zq26, zq27, zq28, zq4, zq3, zq1, zq2, zq0, zq29, zq30, zq14, zq15, zq16, zq17, zq13, zq10, zq12, zq11, zq7, zq5, zq6, zq9, zq8, zq31, zq32, ite_T, ite_F, zq33, zq34, zq35, len27, len24, len35, fa26_0, fa26_1, fa26_2, fa33_0, fa33_1, fa124_0, fa124_1, fa200_0, fa200_1, fa200_2, fa200_3, Nat.reduceEqDiff]
      have hnoR : ∀ s' t, ¬ Der gm.rules ws (.inr xs) (i + m) j s' t := fun s' t ht => by
        rw [der_fits hleft6 hl hj ht] at hft1
        cases hft1
      refine hK1 _ _ ⟨h19, ents1, has1, X1, c1, ps1, ls, h18, hX1, hG, hsub1, hB _ _ _ H, hcoll.congr fun t => ?_, by omega⟩
      rw [seen_row]
      constructor
      · rintro ⟨m', k', h1, h2, h3, h4, h5, h6⟩
        rcases h5 with h5 | ⟨h5, h7⟩
        · exact ⟨m', k', h1, h2, h3, h4, .inl h5, h6⟩
        · subst h5
          obtain ⟨a, b, _, hb, _⟩ := h6
          exact absurd hb (hnoR _ _)
      · rintro ⟨m', k', h1, h2, h3, h4, h5, h6⟩
        exact ⟨m', k', h1, h2, h3, h4, by omega, h6⟩
    simp only [Bool.not_true, zq18, zq19, zq20, zq21, zq22, zq23, zq24, zq25, zq26, zq27, zq28, zq4, zq3, zq1, zq2, zq0, zq29, zq30, zq14, zq15, zq16, zq17, zq13, zq10, zq12, zq11, zq7, zq5, zq6, zq9, zq8, zq31, zq32, ite_T, ite_F, zq33, zq34, zq35, len27, len24, len35, fa26_0, fa26_1, fa26_2, fa33_0, fa33_1, fa124_0, fa124_1, fa200_0, fa200_1, fa200_2, fa200_3, Nat.reduceEqDiff]
    refine loop_to s 0 (fun o g w' => o ≤ s ∧ g 20 = .int .i64 ((o + 1 : Nat) : Int) ∧ g 19 = .int .i64 ((i + m : Nat) : Int) ∧ ∃ ents' has' X1 c1 ps1, ∃ ls : List (List Int), g 18 = .slice X1 ls.length c1 ∧ X1 ≠ none ∧ GoodT M gm.rules ws ents' ∧ (∀ t ∈ ents, t ∈ ents') ∧ Apt w0 w' (L ents' has' (lss X1 c1 ls ps1 :: bx b3 [.int .i64 ((q : Int) * 5 + (p : Int)), .int .i64 i, .int .i64 j, .int .i64 s, .int .i64 0] 257 :: E)) ∧ Coll M (SeenD gm.rules ws (A : Int) xs i j s m o) ls ∧ ls.length ≤ m * (s * M) + o * M)
      ⟨Nat.zero_le _, rfl, h19, ents1, has1, X1, c1, ps1, ls, h18, hX1, hG, hsub1, hB _ _ _ H, hcoll, by omega⟩ ?_
    clear H hG hcoll hlen h18 hX1 hsub1
    rintro o g w5 K2 hag2 ⟨ho, h20, h19, ents1, has1, X1, c1, ps1, ls, h18, hX1, hG, hsub1, H, hcoll, hlen⟩ hK2
    have hoM : o * M ≤ s * M := Nat.mul_le_mul_right _ ho
    have hsM : s * M ≤ 12 * 60 := Nat.mul_le_mul hs hM60
    have g0 : g 0 = ptrv be := (hag2 0 (by decide)).trans f0
    have g1 : g 1 = .int .i64 q := (hag2 1 (by decide)).trans f1
    have g2 : g 2 = .int .i64 p := (hag2 2 (by decide)).trans f2
    have g3 : g 3 = .int .i64 i := (hag2 3 (by decide)).trans f3
    have g4 : g 4 = .int .i64 j := (hag2 4 (by decide)).trans f4
    have g5 : g 5 = .int .i64 s := (hag2 5 (by decide)).trans f5
    have g14 : g 14 = .int .i64 (A : Int) := (hag2 14 (by decide)).trans f14
    simp only [g0, g1, g2, g3, g4, g5, g14, h19, h20, h18, zq18, zq19, zq20, zq21, zq22, zq23, zq24, zq25, zq26, zq27, zq28, zq4, zq3, zq1, zq2, zq0, zq29, zq30, zq14, zq15, zq16, zq17, zq13, zq10, zq12, zq11, zq7, zq5, zq6, zq9, zq8, zq31, zq32, ite_T, ite_F, zq33, zq34, zq35, len27, len24, len35, fa26_0, fa26_1, fa26_2, fa33_0, fa33_1, fa124_0, fa124_1, fa200_0, fa200_1, fa200_2, fa200_3, Nat.reduceEqDiff]
    by_cases hlo : o < s
    case neg =>
      simp only [show ¬ (((o + 1 : Nat) : Int) ≤ s) from by omega, decide_false, zq18, zq19, zq20, zq21, zq22, zq23, zq24, zq25, zq26, zq27, zq28, zq4, zq3, zq1, zq2, zq0, zq29, zq30, zq14, zq15, zq16, zq17, zq13, zq10, zq12, zq11, zq7, zq5, zq6, zq9, zq8, zq31, zq32, ite_T, ite_F, zq33, zq34, zq35, len27, len24, len35, fa26_0, fa26_1, fa26_2, fa33_0, fa33_1, fa124_0, fa124_1, fa200_0, fa200_1, fa200_2, fa200_3, Nat.reduceEqDiff]
      obtain rfl : o = s := by omega
      exact hK1 _ _ ⟨h19, ents1, has1, X1, c1, ps1, ls, h18, hX1, hG, hsub1, H, hcoll.congr fun t => seen_row, by omega⟩
    simp only [show (((o + 1 : Nat) : Int) ≤ s) from by omega, decide_true, zq18, zq19, zq20, zq21, zq22, zq23, zq24, zq25, zq26, zq27, zq28, zq4, zq3, zq1, zq2, zq0, zq29, zq30, zq14, zq15, zq16, zq17, zq13, zq10, zq12, zq11, zq7, zq5, zq6, zq9, zq8, zq31, zq32, ite_T, ite_F, zq33, zq34, zq35, len27, len24, len35, fa26_0, fa26_1, fa26_2, fa33_0, fa33_1, fa124_0, fa124_1, fa200_0, fa200_1, fa200_2, fa200_3, Nat.reduceEqDiff]
    have hoM1 : (o + 1) * M = o * M + M := by rw [Nat.add_mul, Nat.one_mul]
    refine join_as (fun g w' => g 20 = .int .i64 ((o + 1 : Nat) : Int) ∧ g 19 = .int .i64 ((i + m : Nat) : Int) ∧ ∃ ents' has' X1 c1 ps1, ∃ ls : List (List Int), g 18 = .slice X1 ls.length c1 ∧ X1 ≠ none ∧ GoodT M gm.rules ws ents' ∧ (∀ t ∈ ents, t ∈ ents') ∧ Apt w0 w' (L ents' has' (lss X1 c1 ls ps1 :: bx b3 [.int .i64 ((q : Int) * 5 + (p : Int)), .int .i64 i, .int .i64 j, .int .i64 s, .int .i64 0] 257 :: E)) ∧ Coll M (SeenD gm.rules ws (A : Int) xs i j s m (o + 1)) ls ∧ ls.length ≤ m * (s * M) + (o + 1) * M) (fun K3 hK3 => ?_) ?_
    case refine_2 =>
      rintro g w' ⟨g20, g19, hrest⟩
      simp only [g20, zq18, zq19, zq20, zq21, zq22, zq23, zq24, zq25, zq26, zq27, zq28, zq4, zq3, zq1, zq2, zq0, zq29, zq30, zq14, zq15, zq16, zq17, zq13, zq10, zq12, zq11, zq7, zq5, zq6, zq9, zq8, zq31, zq32, ite_T, ite_F, zq33, zq34, zq35, len27, len24, len35, fa26_0, fa26_1, fa26_2, fa33_0, fa33_1, fa124_0, fa124_1, fa200_0, fa200_1, fa200_2, fa200_3, Nat.reduceEqDiff]
      rw [i64_of (by omega) (by omega)]
      exact hK2 _ _ hlo ⟨hlo, by show Value.int .i64 (((o + 1 : Nat) : Int) + 1) = _; congr 1, g19, hrest⟩
    rw [i64_of (n := (p : Int) + 1) (by omega) (by omega), i64_of (n := (s : Int) - ((o + 1 : Nat) : Int)) (by omega) (by omega), show (s : Int) - ((o + 1 : Nat) : Int) = ((s - (o + 1) : Nat) : Int) from by omega]
    refine ihR (q := q) (p := p + 1) (i := i + m) (j := j) (s := s - (o + 1)) (by omega) hq hpl (by omega) hj (by omega) hG H fun w6 ents2 has2 Xr cr rl hG2 hs2 H hheldR hrc hrF => ?_
    rw [hnext] at hrF
    have hrl := hrF.len
    have hsub2 : ∀ t ∈ ents, t ∈ ents2 := fun t ht => hs2 t (hsub1 t ht)
    simp only [zq18, zq19, zq20, zq21, zq22, zq23, zq24, zq25, zq26, zq27, zq28, zq4, zq3, zq1, zq2, zq0, zq29, zq30, zq14, zq15, zq16, zq17, zq13, zq10, zq12, zq11, zq7, zq5, zq6, zq9, zq8, zq31, zq32, ite_T, ite_F, zq33, zq34, zq35, len27, len24, len35, fa26_0, fa26_1, fa26_2, fa33_0, fa33_1, fa124_0, fa124_1, fa200_0, fa200_1, fa200_2, fa200_3, Nat.reduceEqDiff]
    by_cases hr0 : rl.length = 0
    · simp only [show ((rl.length : Int) = 0) from by omega, decide_true, zq18, zq19, zq20, zq21, zq22, zq23, zq24, zq25, zq26, zq27, zq28, zq4, zq3, zq1, zq2, zq0, zq29, zq30, zq14, zq15, zq16, zq17, zq13, zq10, zq12, zq11, zq7, zq5, zq6, zq9, zq8, zq31, zq32, ite_T, ite_F, zq33, zq34, zq35, len27, len24, len35, fa26_0, fa26_1, fa26_2, fa33_0, fa33_1, fa124_0, fa124_1, fa200_0, fa200_1, fa200_2, fa200_3, Nat.reduceEqDiff]
      obtain rfl := List.eq_nil_of_length_eq_zero hr0
      refine hK3 _ _ ⟨h20, h19, ents2, has2, X1, c1, ps1, ls, h18, hX1, hG2, hsub2, H, hcoll.congr fun t => ?_, by omega⟩
      rw [seen_step hle hlo]
      exact ⟨fun h => h.resolve_right (partD_none (fun t => hrF.none hM1 t) t), .inl⟩
    simp only [show ¬ ((rl.length : Int) = 0) from by omega, decide_false, zq18, zq19, zq20, zq21, zq22, zq23, zq24, zq25, zq26, zq27, zq28, zq4, zq3, zq1, zq2, zq0, zq29, zq30, zq14, zq15, zq16, zq17, zq13, zq10, zq12, zq11, zq7, zq5, zq6, zq9, zq8, zq31, zq32, ite_T, ite_F, zq33, zq34, zq35, len27, len24, len35, fa26_0, fa26_1, fa26_2, fa33_0, fa33_1, fa124_0, fa124_1, fa200_0, fa200_1, fa200_2, fa200_3, Nat.reduceEqDiff]
    refine ihT (A := A) (i := i) (j := i + m) (s := o + 1) (by omega) (by omega) (by omega) (by omega) (by omega) hG2 H fun w7 ents3 has3 Xf cf fl hG3 hs3 H hheldF hfc hfF => ?_
    have hfl := hfF.len
    obtain ⟨ysR, readR⟩ := (hheldR.mono hs3).read
    obtain ⟨ysF, readF⟩ := hheldF.read
    have hsub3 : ∀ t ∈ ents, t ∈ ents3 := fun t ht => hs3 t (hsub2 t ht)
    simp only [zq18, zq19, zq20, zq21, zq22, zq23, zq24, zq25, zq26, zq27, zq28, zq4, zq3, zq1, zq2, zq0, zq29, zq30, zq14, zq15, zq16, zq17, zq13, zq10, zq12, zq11, zq7, zq5, zq6, zq9, zq8, zq31, zq32, ite_T, ite_F, zq33, zq34, zq35, len27, len24, len35, fa26_0, fa26_1, fa26_2, fa33_0, fa33_1, fa124_0, fa124_1, fa200_0, fa200_1, fa200_2, fa200_3, Nat.reduceEqDiff]
    refine loop_to fl.length 0 (fun a g w' => a ≤ fl.length ∧ g 134 = .int .i64 a ∧ g 22 = .int .i64 ((partL fl rl a 0).length : Nat) ∧ g 20 = .int .i64 ((o + 1 : Nat) : Int) ∧ g 19 = .int .i64 ((i + m : Nat) : Int) ∧ ∃ X1 c1 ps1, g 18 = .slice X1 (ls ++ (partL fl rl a 0).take M).length c1 ∧ X1 ≠ none ∧ Apt w0 w' (L ents3 has3 (lss X1 c1 (ls ++ (partL fl rl a 0).take M) ps1 :: bx b3 [.int .i64 ((q : Int) * 5 + (p : Int)), .int .i64 i, .int .i64 j, .int .i64 s, .int .i64 0] 257 :: E)))
      ⟨Nat.zero_le _, rfl, by rw [partL_zero]; rfl, h20, h19, X1, c1, ps1, by rw [partL_zero, List.take_nil, List.append_nil]; exact h18, hX1, by rw [partL_zero, List.take_nil, List.append_nil]; exact H⟩ ?_
    clear H h18 hX1
    rintro a pf w8 K4 hag4 ⟨ha, p134, p22, p20, p19, X1, c1, ps1, p18, hX1, H⟩ hK4
    have p133 : pf 133 = .int .i64 fl.length := hag4 133 (by decide)
    have p132 : pf 132 = .slice Xf fl.length cf := hag4 132 (by decide)
    have p21 : pf 21 = .slice Xr rl.length cr := hag4 21 (by decide)
    have p0 : pf 0 = ptrv be := (hag4 0 (by decide)).trans g0
    simp only [p133, p134, zq18, zq19, zq20, zq21, zq22, zq23, zq24, zq25, zq26, zq27, zq28, zq4, zq3, zq1, zq2, zq0, zq29, zq30, zq14, zq15, zq16, zq17, zq13, zq10, zq12, zq11, zq7, zq5, zq6, zq9, zq8, zq31, zq32, ite_T, ite_F, zq33, zq34, zq35, len27, len24, len35, fa26_0, fa26_1, fa26_2, fa33_0, fa33_1, fa124_0, fa124_1, fa200_0, fa200_1, fa200_2, fa200_3, Nat.reduceEqDiff]
    by_cases hla : a < fl.length
    case neg =>
      simp only [show ¬ ((a : Int) < fl.length) from by omega, decide_false, zq18, zq19, zq20, zq21, zq22, zq23, zq24, zq25, zq26, zq27, zq28, zq4, zq3, zq1, zq2, zq0, zq29, zq30, zq14, zq15, zq16, zq17, zq13, zq10, zq12, zq11, zq7, zq5, zq6, zq9, zq8, zq31, zq32, ite_T, ite_F, zq33, zq34, zq35, len27, len24, len35, fa26_0, fa26_1, fa26_2, fa33_0, fa33_1, fa124_0, fa124_1, fa200_0, fa200_1, fa200_2, fa200_3, Nat.reduceEqDiff]
      obtain rfl : a = fl.length := by omega
      rw [partL_done (Nat.le_refl _)] at p18 H
      refine hK3 _ _ ⟨p20, p19, ents3, has3, X1, c1, ps1, _, p18, hX1, hG3, hsub3, H, (hcoll.append (prod_firsts der_free hfF hrF) fun x hx hx' => seen_apart hx hx').congr fun t => seen_step hle hlo, ?_⟩
      rw [List.length_append, List.length_take]
      omega
    simp only [show ((a : Int) < fl.length) from by omega, decide_true, zq18, zq19, zq20, zq21, zq22, zq23, zq24, zq25, zq26, zq27, zq28, zq4, zq3, zq1, zq2, zq0, zq29, zq30, zq14, zq15, zq16, zq17, zq13, zq10, zq12, zq11, zq7, zq5, zq6, zq9, zq8, zq31, zq32, ite_T, ite_F, zq33, zq34, zq35, len27, len24, len35, fa26_0, fa26_1, fa26_2, fa33_0, fa33_1, fa124_0, fa124_1, fa200_0, fa200_1, fa200_2, fa200_3, Nat.reduceEqDiff]
    simp only [p132, p21, zq18, zq19, zq20, zq21, zq22, zq23, zq24, zq25, zq26, zq27, zq28, zq4, zq3, zq1, zq2, zq0, zq29, zq30, zq14, zq15, zq16, zq17, zq13, zq10, zq12, zq11, zq7, zq5, zq6, zq9, zq8, zq31, zq32, ite_T, ite_F, zq33, zq34, zq35, len27, len24, len35, fa26_0, fa26_1, fa26_2, fa33_0, fa33_1, fa124_0, fa124_1, fa200_0, fa200_1, fa200_2, fa200_3, Nat.reduceEqDiff]
    rw [hL] at H
    have hreadF := readF H 2 rfl
    obtain ⟨ta1, ta2, ta3⟩ := hreadF.row a hla
    have hal : (rgt fl a).length = o + 1 := der_len (hfF.mem _ (rgt_mem hla))
    refine rdi (ixn35 hreadF.ptr hla) (rdi (ld27 ta1) ?_)
    refine loop_to rl.length 0 (fun b g w' => b ≤ rl.length ∧ g 140 = .int .i64 b ∧ g 134 = .int .i64 a ∧ g 22 = .int .i64 ((partL fl rl a b).length : Nat) ∧ g 20 = .int .i64 ((o + 1 : Nat) : Int) ∧ g 19 = .int .i64 ((i + m : Nat) : Int) ∧ ∃ X1 c1 ps1, g 18 = .slice X1 (ls ++ (partL fl rl a b).take M).length c1 ∧ X1 ≠ none ∧ Apt w0 w' (L ents3 has3 (lss X1 c1 (ls ++ (partL fl rl a b).take M) ps1 :: bx b3 [.int .i64 ((q : Int) * 5 + (p : Int)), .int .i64 i, .int .i64 j, .int .i64 s, .int .i64 0] 257 :: E)))
      ⟨Nat.zero_le _, rfl, p134, p22, p20, p19, X1, c1, ps1, p18, hX1, hB _ _ _ H⟩ ?_
    clear H p18 hX1 ta1 ta3
    rintro b pg w9 K5 hag5 ⟨hb, r140, r134, r22, r20, r19, X1, c1, ps1, r18, hX1, H⟩ hK5
    have r139 : pg 139 = .int .i64 rl.length := hag5 139 (by decide)
    have r138 : pg 138 = .slice Xr rl.length cr := hag5 138 (by decide)
    have r24 : pg 24 = .slice (ysF a).1 (rgt fl a).length (ysF a).2 := hag5 24 (by decide)
    have r0 : pg 0 = ptrv be := (hag5 0 (by decide)).trans p0
    simp only [r139, r140, zq18, zq19, zq20, zq21, zq22, zq23, zq24, zq25, zq26, zq27, zq28, zq4, zq3, zq1, zq2, zq0, zq29, zq30, zq14, zq15, zq16, zq17, zq13, zq10, zq12, zq11, zq7, zq5, zq6, zq9, zq8, zq31, zq32, ite_T, ite_F, zq33, zq34, zq35, len27, len24, len35, fa26_0, fa26_1, fa26_2, fa33_0, fa33_1, fa124_0, fa124_1, fa200_0, fa200_1, fa200_2, fa200_3, Nat.reduceEqDiff]
    by_cases hlb : b < rl.length
    case neg =>
      simp only [show ¬ ((b : Int) < rl.length) from by omega, decide_false, zq18, zq19, zq20, zq21, zq22, zq23, zq24, zq25, zq26, zq27, zq28, zq4, zq3, zq1, zq2, zq0, zq29, zq30, zq14, zq15, zq16, zq17, zq13, zq10, zq12, zq11, zq7, zq5, zq6, zq9, zq8, zq31, zq32, ite_T, ite_F, zq33, zq34, zq35, len27, len24, len35, fa26_0, fa26_1, fa26_2, fa33_0, fa33_1, fa124_0, fa124_1, fa200_0, fa200_1, fa200_2, fa200_3, Nat.reduceEqDiff]
      simp only [r134, zq18, zq19, zq20, zq21, zq22, zq23, zq24, zq25, zq26, zq27, zq28, zq4, zq3, zq1, zq2, zq0, zq29, zq30, zq14, zq15, zq16, zq17, zq13, zq10, zq12, zq11, zq7, zq5, zq6, zq9, zq8, zq31, zq32, ite_T, ite_F, zq33, zq34, zq35, len27, len24, len35, fa26_0, fa26_1, fa26_2, fa33_0, fa33_1, fa124_0, fa124_1, fa200_0, fa200_1, fa200_2, fa200_3, Nat.reduceEqDiff]
      rw [i64_of (by omega) (by omega)]
      rw [partL_row hla (by omega)] at r22 r18 H
      exact hK4 _ _ hla ⟨hla, rfl, r22, r20, r19, X1, c1, ps1, r18, hX1, H⟩
    simp only [show ((b : Int) < rl.length) from by omega, decide_true, zq18, zq19, zq20, zq21, zq22, zq23, zq24, zq25, zq26, zq27, zq28, zq4, zq3, zq1, zq2, zq0, zq29, zq30, zq14, zq15, zq16, zq17, zq13, zq10, zq12, zq11, zq7, zq5, zq6, zq9, zq8, zq31, zq32, ite_T, ite_F, zq33, zq34, zq35, len27, len24, len35, fa26_0, fa26_1, fa26_2, fa33_0, fa33_1, fa124_0, fa124_1, fa200_0, fa200_1, fa200_2, fa200_3, Nat.reduceEqDiff]
    have hn1 := partL_len (F := fl) (R := rl) (a := a) (b := b) (by omega) (by omega)
    have hn2 : a * rl.length ≤ 60 * 60 := Nat.mul_le_mul (by omega) (by omega)
    have hlen9 : (ls ++ (partL fl rl a b).take M).length ≤ 100000 := by
      rw [List.length_append, List.length_take]
      omega
    refine join_as (fun g w' => g 140 = .int .i64 b ∧ g 134 = .int .i64 a ∧ g 22 = .int .i64 ((partL fl rl a (b + 1)).length : Nat) ∧ g 20 = .int .i64 ((o + 1 : Nat) : Int) ∧ g 19 = .int .i64 ((i + m : Nat) : Int) ∧ ∃ X1 c1 ps1, g 18 = .slice X1 (ls ++ (partL fl rl a (b + 1)).take M).length c1 ∧ X1 ≠ none ∧ Apt w0 w' (L ents3 has3 (lss X1 c1 (ls ++ (partL fl rl a (b + 1)).take M) ps1 :: bx b3 [.int .i64 ((q : Int) * 5 + (p : Int)), .int .i64 i, .int .i64 j, .int .i64 s, .int .i64 0] 257 :: E))) (fun K6 hK6 => ?_) ?_
    case refine_2 =>
      rintro g w' ⟨g140, hrest⟩
      simp only [g140, zq18, zq19, zq20, zq21, zq22, zq23, zq24, zq25, zq26, zq27, zq28, zq4, zq3, zq1, zq2, zq0, zq29, zq30, zq14, zq15, zq16, zq17, zq13, zq10, zq12, zq11, zq7, zq5, zq6, zq9, zq8, zq31, zq32, ite_T, ite_F, zq33, zq34, zq35, len27, len24, len35, fa26_0, fa26_1, fa26_2, fa33_0, fa33_1, fa124_0, fa124_1, fa200_0, fa200_1, fa200_2, fa200_3, Nat.reduceEqDiff]
      rw [i64_of (by omega) (by omega)]
      exact hK5 _ _ hlb ⟨hlb, rfl, hrest⟩
    simp only [r138, r0, r22, r24, r18, zq18, zq19, zq20, zq21, zq22, zq23, zq24, zq25, zq26, zq27, zq28, zq4, zq3, zq1, zq2, zq0, zq29, zq30, zq14, zq15, zq16, zq17, zq13, zq10, zq12, zq11, zq7, zq5, zq6, zq9, zq8, zq31, zq32, ite_T, ite_F, zq33, zq34, zq35, len27, len24, len35, fa26_0, fa26_1, fa26_2, fa33_0, fa33_1, fa124_0, fa124_1, fa200_0, fa200_1, fa200_2, fa200_3, Nat.reduceEqDiff]
    rw [hL] at H
    have hreadR := readR H 2 rfl
    obtain ⟨tb1, tb2, tb3⟩ := hreadR.row b hlb
    have hbl : (rgt rl b).length = s - (o + 1) := der_len (hrF.mem _ (rgt_mem hlb))
    refine rdi (ixn35 hreadR.ptr hlb) (rdi (ld27 tb1) ?_)
    have hstep : (partL fl rl a (b + 1)).take M = if (partL fl rl a b).length < M then (partL fl rl a b).take M ++ [rgt fl a ++ rgt rl b] else (partL fl rl a b).take M := by
      rw [partL_step hlb, take_step]
    have hnlen : (partL fl rl a (b + 1)).length = (partL fl rl a b).length + 1 := by
      rw [partL_step hlb, List.length_append]
      rfl
    refine join_as (fun g w' => g 140 = .int .i64 b ∧ g 134 = .int .i64 a ∧ g 22 = .int .i64 ((partL fl rl a b).length : Nat) ∧ g 20 = .int .i64 ((o + 1 : Nat) : Int) ∧ g 19 = .int .i64 ((i + m : Nat) : Int) ∧ ∃ X1 c1 ps1, g 18 = .slice X1 (ls ++ (partL fl rl a (b + 1)).take M).length c1 ∧ X1 ≠ none ∧ Apt w0 w' (L ents3 has3 (lss X1 c1 (ls ++ (partL fl rl a (b + 1)).take M) ps1 :: bx b3 [.int .i64 ((q : Int) * 5 + (p : Int)), .int .i64 i, .int .i64 j, .int .i64 s, .int .i64 0] 257 :: E))) (fun K7 hK7 => ?_) ?_
    case refine_2 =>
      rintro g w' ⟨g140, g134, g22, hrest⟩
      simp only [g22, zq18, zq19, zq20, zq21, zq22, zq23, zq24, zq25, zq26, zq27, zq28, zq4, zq3, zq1, zq2, zq0, zq29, zq30, zq14, zq15, zq16, zq17, zq13, zq10, zq12, zq11, zq7, zq5, zq6, zq9, zq8, zq31, zq32, ite_T, ite_F, zq33, zq34, zq35, len27, len24, len35, fa26_0, fa26_1, fa26_2, fa33_0, fa33_1, fa124_0, fa124_1, fa200_0, fa200_1, fa200_2, fa200_3, Nat.reduceEqDiff]
      rw [i64_of (by omega) (by omega)]
      exact hK6 _ _ ⟨g140, g134, by rw [hnlen]; rfl, hrest⟩
    rw [ldB3 (H.box 0 rfl) rfl]
    simp only [zq18, zq19, zq20, zq21, zq22, zq23, zq24, zq25, zq26, zq27, zq28, zq4, zq3, zq1, zq2, zq0, zq29, zq30, zq14, zq15, zq16, zq17, zq13, zq10, zq12, zq11, zq7, zq5, zq6, zq9, zq8, zq31, zq32, ite_T, ite_F, zq33, zq34, zq35, len27, len24, len35, fa26_0, fa26_1, fa26_2, fa33_0, fa33_1, fa124_0, fa124_1, fa200_0, fa200_1, fa200_2, fa200_3, Nat.reduceEqDiff]
    by_cases hnM : (partL fl rl a b).length < M
    case neg =>
      simp only [show ¬ (((partL fl rl a b).length : Int) < (M : Int)) from by omega, decide_false, zq18, zq19, zq20, zq21, zq22, zq23, zq24, zq25, zq26, zq27, zq28, zq4, zq3, zq1, zq2, zq0, zq29, zq30, zq14, zq15, zq16, zq17, zq13, zq10, zq12, zq11, zq7, zq5, zq6, zq9, zq8, zq31, zq32, ite_T, ite_F, zq33, zq34, zq35, len27, len24, len35, fa26_0, fa26_1, fa26_2, fa33_0, fa33_1, fa124_0, fa124_1, fa200_0, fa200_1, fa200_2, fa200_3, Nat.reduceEqDiff]
      rw [if_neg hnM] at hstep
      exact hK7 _ _ ⟨r140, r134, r22, r20, r19, X1, c1, ps1, by rw [hstep]; exact r18, hX1, by rw [hstep]; exact hB _ _ _ H⟩
    simp only [show (((partL fl rl a b).length : Int) < (M : Int)) from by omega, decide_true, zq18, zq19, zq20, zq21, zq22, zq23, zq24, zq25, zq26, zq27, zq28, zq4, zq3, zq1, zq2, zq0, zq29, zq30, zq14, zq15, zq16, zq17, zq13, zq10, zq12, zq11, zq7, zq5, zq6, zq9, zq8, zq31, zq32, ite_T, ite_F, zq33, zq34, zq35, len27, len24, len35, fa26_0, fa26_1, fa26_2, fa33_0, fa33_1, fa124_0, fa124_1, fa200_0, fa200_1, fa200_2, fa200_3, Nat.reduceEqDiff]
    rw [if_pos hnM] at hstep
    refine do_build_of u27 inf3 (cells := []) (by decide) (by decide) (by simp [Instr.fill, madeCells]) rfl fun b1 w6 hb1 hb2 g6 hB6 hr6 => ?_
    have H := H.addOwn (xs := []) g6 (hr6 _ (Nat.le_refl _))
    have H := H.insert 4
    simp only [List.take_succ_cons, List.take_zero, List.drop_succ_cons, List.drop_zero, List.nil_append, List.cons_append] at H
    refine apH H 4 rfl (((readF H 2 rfl).row a hla).2.2.is) rfl rfl (by simp; omega) fun X7 c7 w7 H => ?_
    simp only [List.set_cons_zero, List.set_cons_succ] at H
    refine apH H 4 rfl (((readR H 2 rfl).row b hlb).2.2.is) rfl rfl (by simp; omega) fun X8 c8 w8 H => ?_
    simp only [List.set_cons_zero, List.set_cons_succ] at H
    refine pushSSH H 3 4 (by decide) rfl rfl rfl rfl (by omega) fun t8 X9 c9 w10 ps9 H => ?_
    simp only [List.set_cons_zero, List.set_cons_succ] at H
    have H := H.erase 4
    simp only [List.eraseIdx_cons_zero, List.eraseIdx_cons_succ] at H
    have hX9 : X9 ≠ none := fun e => by
      have := (H.lssi 3 rfl).ptr (by rw [List.length_append, List.length_singleton]; omega)
      rw [e] at this
      cases this
    have e : ls ++ (partL fl rl a (b + 1)).take M = ls ++ (partL fl rl a b).take M ++ [[] ++ rgt fl a ++ rgt rl b] := by
      rw [hstep, List.append_assoc]
      rfl
    refine hK7 _ _ ⟨r140, r134, r22, r20, r19, X9, c9, ps9, ?_, hX9, ?_⟩
    · rw [e]
      rfl
    · rw [e]
      exact hB _ _ _ H
end
end Go.Proofs.Ytegcjkhebecgbaa

/- Contract: TreesUpTo of the program. -/
set_option linter.unusedVariables false
set_option linter.unusedSimpArgs false
set_option maxRecDepth 100000
namespace Go.Proofs.Ytegcjkhebecgbaa
open Go Go.Sh Go.RowKit Go.WideMaps
theorem told_all {F : Nat → Prop} {w0 : World} {gm : Gram} {X Y : Option Addr} {cx cy be bt bm M : Nat} {ws : List Int} {L : List Ent → List Value → List Thing → List Thing} (hM1 : 0 < M) (hM60 : M ≤ 60) (hg : goodG gm = true) (hy : RulesF F w0 Y gm.rules) (hX : Ints w0 X ws) (hl : ws.length ≤ 10) (hw : ∀ t ∈ ws, 0 ≤ t ∧ t ≤ 100)
    (hL : ∀ ents has E, L ents has E = bx be (cellsTold gm Y cy bt M bm) 200 :: bx bt (.slice X ws.length cx :: cellsT (spanT gm.rules ws)) 124 :: mpG bm ents has :: E) : ∀ N, TreesC be gm ws M w0 L N ∧ RestC be gm ws M w0 L N := by
  intro N
  induction N with
  | zero =>
    refine ⟨trees_step hM1 hM60 hg hy hl hL (fun N' h => by omega), ?_⟩
    intro q p i j s w ents has E k hN
    omega
  | succ N ih =>
    refine ⟨trees_step hM1 hM60 hg hy hl hL fun N' h => ?_, rest_step hM1 hM60 hg hy hX hl hw hL ih.1 ih.2⟩
    obtain rfl : N = N' := by omega
    exact ih.2
theorem inf200' : Inf Try.prog 200 (.agg #[.int .i64 0, .int .i64 0, .slice none 0 0, .pointer none, .int .i64 0, .map none]) 6 64 := inf_of (by kernel_rfl)
theorem bd200 {S : WS} {k : Value → Prop} {a b c p n m : Value} (ha : a.cells = #[a]) (hb : b.cells = #[b]) (hc : c.cells = #[c]) (hp : p.cells = #[p]) (hn : n.cells = #[n]) (hm : m.cells = #[m]) : Rd Try.prog S (sBuild 200 [(0, .agg #[a, b, c]), (1, p), (2, n), (3, m)]) k = k (.agg #[a, b, c, p, n, m]) :=
  rd_buildN (ps := [(0, 3), (3, 1), (4, 1), (5, 1)]) Try.underlying200 inf200' ⟨⟨rfl, sz26⟩, ⟨rfl, sz125⟩, ⟨rfl, sz3⟩, ⟨rfl, sz198⟩, trivial⟩ (by
    have e : (Value.agg #[a, b, c]).cells = #[a, b, c] := rfl
    have e2 : (Value.agg #[Value.int .i64 0, .int .i64 0, .slice none 0 0, .pointer none, .int .i64 0, .map none]).cells = #[Value.int .i64 0, .int .i64 0, .slice none 0 0, .pointer none, .int .i64 0, .map none] := rfl
    simp [Instr.fill, hp, hn, hm, e, e2])
set_option maxHeartbeats 3200000 in
theorem implTreesUpTo_c {F : Nat → Prop} {w : World} {v : Value} {gm : Gram} {X : Option Addr} {n cx : Nat} {ws : List Int} {most many : Int} (hv : GramV F w v gm) (hX : Ints w X ws) (hn : n = ws.length) {k : Value → World → Prop}
    (hk : ∀ w' U d ps, Gr w w' → OwnSS 27 3 w' w.heap.size U d (treesV gm ws most many).1 ps → k (.tuple #[.slice U (treesV gm ws most many).1.length d, .bool (treesV gm ws most many).2]) w') :
    CallK Try.prog 123 [v, .slice X n cx, .int .i64 most, .int .i64 many] k w := by
  subst hn
  obtain ⟨Y, cy, rfl, hc, hy⟩ := hv
  refine enter123 ?_
  unfold S123
  have H := Apt.nil w
  refine boxH H fun b1 w1 H => ?_
  rw [ldB_agg agg26 sz26 rfl (H.box 0 rfl)]
  refine isGrammar_c (gm := gm) ⟨Y, cy, rfl, hc, hy.gr H.gr⟩ fun w2 g2 => ?_
  have H := H.step g2
  have no : (((goodG gm && wordB gm.toks ws) && inB most 0 12) && inB many 0 60) = false → ∀ w', Gr w w' → k (.tuple #[.slice none 0 0, .bool false]) w' := fun h w' g => by
    have := hk w' none 0 (fun _ => (none, 0)) g
    unfold treesV at this
    rw [h, if_neg Bool.false_ne_true] at this
    exact this (OwnSS.nil _ _ _ _ _)
  cases hg : goodG gm
  · simp only [Bool.not_false, zq18, zq19, zq20, zq21, zq22, zq23, zq24, zq25, zq26, zq27, zq28, zq4, zq3, zq1, zq2, zq0, zq29, zq30, zq14, zq15, zq16, zq17, zq13, zq10, zq12, zq11, zq7, zq5, zq6, zq9, zq8, zq31, zq32, ite_T, ite_F, zq33, zq34, zq35, len27, len24, len35, fa26_0, fa26_1, fa26_2, fa33_0, fa33_1, fa124_0, fa124_1, fa200_0, fa200_1, fa200_2, fa200_3, Nat.reduceEqDiff]
    exact no (by rw [hg]; rfl) _ H.gr
  simp only [Bool.not_true, zq18, zq19, zq20, zq21, zq22, zq23, zq24, zq25, zq26, zq27, zq28, zq4, zq3, zq1, zq2, zq0, zq29, zq30, zq14, zq15, zq16, zq17, zq13, zq10, zq12, zq11, zq7, zq5, zq6, zq9, zq8, zq31, zq32, ite_T, ite_F, zq33, zq34, zq35, len27, len24, len35, fa26_0, fa26_1, fa26_2, fa33_0, fa33_1, fa124_0, fa124_1, fa200_0, fa200_1, fa200_2, fa200_3, Nat.reduceEqDiff]
  have ht := good_toks hg
  rw [ldB3 (H.box 0 rfl) rfl]
  refine isWord_c (hX.gr H.gr) rfl ht.1 ht.2 fun w3 g3 => ?_
  have H := H.step g3
  cases hgw : wordB gm.toks ws
  · simp only [Bool.not_false, zq18, zq19, zq20, zq21, zq22, zq23, zq24, zq25, zq26, zq27, zq28, zq4, zq3, zq1, zq2, zq0, zq29, zq30, zq14, zq15, zq16, zq17, zq13, zq10, zq12, zq11, zq7, zq5, zq6, zq9, zq8, zq31, zq32, ite_T, ite_F, zq33, zq34, zq35, len27, len24, len35, fa26_0, fa26_1, fa26_2, fa33_0, fa33_1, fa124_0, fa124_1, fa200_0, fa200_1, fa200_2, fa200_3, Nat.reduceEqDiff]
    exact no (by rw [hg, hgw]; rfl) _ H.gr
  simp only [Bool.not_true, zq18, zq19, zq20, zq21, zq22, zq23, zq24, zq25, zq26, zq27, zq28, zq4, zq3, zq1, zq2, zq0, zq29, zq30, zq14, zq15, zq16, zq17, zq13, zq10, zq12, zq11, zq7, zq5, zq6, zq9, zq8, zq31, zq32, ite_T, ite_F, zq33, zq34, zq35, len27, len24, len35, fa26_0, fa26_1, fa26_2, fa33_0, fa33_1, fa124_0, fa124_1, fa200_0, fa200_1, fa200_2, fa200_3, Nat.reduceEqDiff]
  refine in_c ?_
  cases hm : inB most 0 12
  · simp only [Bool.not_false, zq18, zq19, zq20, zq21, zq22, zq23, zq24, zq25, zq26, zq27, zq28, zq4, zq3, zq1, zq2, zq0, zq29, zq30, zq14, zq15, zq16, zq17, zq13, zq10, zq12, zq11, zq7, zq5, zq6, zq9, zq8, zq31, zq32, ite_T, ite_F, zq33, zq34, zq35, len27, len24, len35, fa26_0, fa26_1, fa26_2, fa33_0, fa33_1, fa124_0, fa124_1, fa200_0, fa200_1, fa200_2, fa200_3, Nat.reduceEqDiff]
    exact no (by rw [hg, hgw, hm]; rfl) _ H.gr
  simp only [Bool.not_true, zq18, zq19, zq20, zq21, zq22, zq23, zq24, zq25, zq26, zq27, zq28, zq4, zq3, zq1, zq2, zq0, zq29, zq30, zq14, zq15, zq16, zq17, zq13, zq10, zq12, zq11, zq7, zq5, zq6, zq9, zq8, zq31, zq32, ite_T, ite_F, zq33, zq34, zq35, len27, len24, len35, fa26_0, fa26_1, fa26_2, fa33_0, fa33_1, fa124_0, fa124_1, fa200_0, fa200_1, fa200_2, fa200_3, Nat.reduceEqDiff]
  refine in_c ?_
  cases hm2 : inB many 0 60
  · simp only [Bool.not_false, zq18, zq19, zq20, zq21, zq22, zq23, zq24, zq25, zq26, zq27, zq28, zq4, zq3, zq1, zq2, zq0, zq29, zq30, zq14, zq15, zq16, zq17, zq13, zq10, zq12, zq11, zq7, zq5, zq6, zq9, zq8, zq31, zq32, ite_T, ite_F, zq33, zq34, zq35, len27, len24, len35, fa26_0, fa26_1, fa26_2, fa33_0, fa33_1, fa124_0, fa124_1, fa200_0, fa200_1, fa200_2, fa200_3, Nat.reduceEqDiff]
    exact no (by rw [hg, hgw, hm, hm2]; rfl) _ H.gr
  simp only [Bool.not_true, zq18, zq19, zq20, zq21, zq22, zq23, zq24, zq25, zq26, zq27, zq28, zq4, zq3, zq1, zq2, zq0, zq29, zq30, zq14, zq15, zq16, zq17, zq13, zq10, zq12, zq11, zq7, zq5, zq6, zq9, zq8, zq31, zq32, ite_T, ite_F, zq33, zq34, zq35, len27, len24, len35, fa26_0, fa26_1, fa26_2, fa33_0, fa33_1, fa124_0, fa124_1, fa200_0, fa200_1, fa200_2, fa200_3, Nat.reduceEqDiff]
  unfold treesV at hk
  rw [hg, hgw, hm, hm2, if_pos (show (((true && true) && true) && true) = true from rfl)] at hk
  dsimp only at hk
  have hlen := wordB_len hgw
  have htok := wordB_tok hgw ht.2
  have hn6 := good_nons hg
  simp only [inB, Bool.and_eq_true, decide_eq_true_eq] at hm hm2
  obtain ⟨most, rfl⟩ : ∃ m' : Nat, most = m' := ⟨most.toNat, by omega⟩
  obtain ⟨M, rfl⟩ : ∃ m' : Nat, many = m' := ⟨many.toNat, by omega⟩
  rw [Int.toNat_natCast, Int.toNat_natCast] at hk
  have H := H.drew
  refine join_as (fun f w' => f 1 = .slice X ws.length cx ∧ f 2 = .int .i64 (most : Int) ∧ f 3 = .int .i64 (M : Int) ∧ ∃ be bt bm, f 10 = ptrv be ∧ Apt w w' [bx be (cellsTold gm Y cy bt M bm) 200, bx bt (.slice X ws.length cx :: cellsT (spanT gm.rules ws)) 124, mpG bm [] []]) (fun K1 hK1 => ?_) ?_
  · refine ⟨fun w' => Gr w3.drew w', Gr.refl _, ?_⟩
    rw [rdG_agg agg26 sz26 rfl (H.box 0 rfl)]
    rw [rdG_agg agg26 sz26 rfl (H.box 0 rfl)]
    refine ⟨?_, ?_⟩
    · refine spans_c (gm := gm) ⟨Y, cy, rfl, hc, hy.gr H.gr⟩ hg (hX.gr H.gr) rfl hlen htok fun w4 bt HT => ?_
      refine ⟨HT.gr, ?_⟩
      have H := H.append HT
      refine makeMapHG (Good := fun _ _ => False) H fun bm w5 g5 H => ?_
      refine ⟨gr_trans HT.gr g5, ?_⟩
      refine rdi (bd200 rfl rfl rfl rfl rfl rfl) ?_
      refine boxHG H fun be w6 g6 H => ?_
      refine ⟨gr_trans HT.gr (gr_trans g5 g6), ?_⟩
      have H := (H.erase 0).insert 0
      simp only [List.nil_append, List.cons_append, List.eraseIdx_cons_zero, List.eraseIdx_cons_succ, List.take_succ_cons, List.take_zero, List.drop_succ_cons, List.drop_zero] at H
      have H := H.emptyG 2 rfl
      simp only [List.set_cons_zero, List.set_cons_succ] at H
      exact hK1 _ _ ⟨rfl, rfl, rfl, be, bt, bm, rfl, H⟩
    · refine makeMapHG (Good := fun _ _ => False) H fun bm w5 g5 H => ?_
      refine ⟨g5, ?_⟩
      refine spans_c (gm := gm) ⟨Y, cy, rfl, hc, hy.gr H.gr⟩ hg (hX.gr H.gr) rfl hlen htok fun w4 bt HT => ?_
      refine ⟨gr_trans g5 HT.gr, ?_⟩
      have H := H.append HT
      refine rdi (bd200 rfl rfl rfl rfl rfl rfl) ?_
      refine boxHG H fun be w6 g6 H => ?_
      refine ⟨gr_trans g5 (gr_trans HT.gr g6), ?_⟩
      have H := (H.erase 0).insert 0
      simp only [List.nil_append, List.cons_append, List.eraseIdx_cons_zero, List.eraseIdx_cons_succ, List.take_succ_cons, List.take_zero, List.drop_succ_cons, List.drop_zero] at H
      have H := Apt.insert (L := [_, _]) H 1
      simp only [List.nil_append, List.cons_append, List.eraseIdx_cons_zero, List.eraseIdx_cons_succ, List.take_succ_cons, List.take_zero, List.drop_succ_cons, List.drop_zero] at H
      have H := H.emptyG 2 rfl
      simp only [List.set_cons_zero, List.set_cons_succ] at H
      exact hK1 _ _ ⟨rfl, rfl, rfl, be, bt, bm, rfl, H⟩
  clear H
  rintro f0 w4 ⟨a1, a2, a3, be, bt, bm, a10, H⟩
  refine newSSH H fun b5 w5 H => ?_
  simp only [List.nil_append, List.cons_append] at H
  refine loop_to most 0 (fun n f w' => n ≤ most ∧ f 12 = .int .i64 ((n + 1 : Nat) : Int) ∧ ∃ ents has X' c' ps, f 11 = .slice X' (toldL (topD gm ws) M n).length c' ∧ GoodT M gm.rules ws ents ∧ Apt w w' (bx be (cellsTold gm Y cy bt M bm) 200 :: bx bt (.slice X ws.length cx :: cellsT (spanT gm.rules ws)) 124 :: mpG bm ents has :: [lss X' c' (toldL (topD gm ws) M n) ps]))
    ⟨Nat.zero_le _, rfl, [], [], _, 0, _, rfl, fun t ht => by simp at ht, H⟩ ?_
  clear H
  rintro n f w6 NN hag ⟨hnm, h12, ents, has, X1, c1, ps1, h11, hG, H⟩ hN
  have f1 : f 1 = .slice X ws.length cx := (hag 1 (by decide)).trans a1
  have f2 : f 2 = .int .i64 most := (hag 2 (by decide)).trans a2
  have f3 : f 3 = .int .i64 M := (hag 3 (by decide)).trans a3
  have f10 : f 10 = ptrv be := (hag 10 (by decide)).trans a10
  have hlen2 := toldL_len (S := topD gm ws) (many := M) n
  have fin : toldL (topD gm ws) M most = toldL (topD gm ws) M n → k (.tuple #[.slice X1 (toldL (topD gm ws) M n).length c1, .bool true]) w6 := fun e => by
    have := hk w6 X1 c1 ps1 H.gr
    rw [e] at this
    exact this (H.lssi 3 rfl)
  simp only [f1, f2, f3, f10, h12, h11, zq18, zq19, zq20, zq21, zq22, zq23, zq24, zq25, zq26, zq27, zq28, zq4, zq3, zq1, zq2, zq0, zq29, zq30, zq14, zq15, zq16, zq17, zq13, zq10, zq12, zq11, zq7, zq5, zq6, zq9, zq8, zq31, zq32, ite_T, ite_F, zq33, zq34, zq35, len27, len24, len35, fa26_0, fa26_1, fa26_2, fa33_0, fa33_1, fa124_0, fa124_1, fa200_0, fa200_1, fa200_2, fa200_3, Nat.reduceEqDiff]
  by_cases hlt : n < most
  case neg =>
    simp only [show ¬ (((n + 1 : Nat) : Int) ≤ most) from by omega, decide_false, zq18, zq19, zq20, zq21, zq22, zq23, zq24, zq25, zq26, zq27, zq28, zq4, zq3, zq1, zq2, zq0, zq29, zq30, zq14, zq15, zq16, zq17, zq13, zq10, zq12, zq11, zq7, zq5, zq6, zq9, zq8, zq31, zq32, ite_T, ite_F, zq33, zq34, zq35, len27, len24, len35, fa26_0, fa26_1, fa26_2, fa33_0, fa33_1, fa124_0, fa124_1, fa200_0, fa200_1, fa200_2, fa200_3, Nat.reduceEqDiff]
    exact fin (by rw [show most = n from by omega])
  simp only [show (((n + 1 : Nat) : Int) ≤ most) from by omega, decide_true, zq18, zq19, zq20, zq21, zq22, zq23, zq24, zq25, zq26, zq27, zq28, zq4, zq3, zq1, zq2, zq0, zq29, zq30, zq14, zq15, zq16, zq17, zq13, zq10, zq12, zq11, zq7, zq5, zq6, zq9, zq8, zq31, zq32, ite_T, ite_F, zq33, zq34, zq35, len27, len24, len35, fa26_0, fa26_1, fa26_2, fa33_0, fa33_1, fa124_0, fa124_1, fa200_0, fa200_1, fa200_2, fa200_3, Nat.reduceEqDiff]
  by_cases hfull : (toldL (topD gm ws) M n).length < M
  case neg =>
    simp only [show ¬ (((toldL (topD gm ws) M n).length : Int) < M) from by omega, decide_false, zq18, zq19, zq20, zq21, zq22, zq23, zq24, zq25, zq26, zq27, zq28, zq4, zq3, zq1, zq2, zq0, zq29, zq30, zq14, zq15, zq16, zq17, zq13, zq10, zq12, zq11, zq7, zq5, zq6, zq9, zq8, zq31, zq32, ite_T, ite_F, zq33, zq34, zq35, len27, len24, len35, fa26_0, fa26_1, fa26_2, fa33_0, fa33_1, fa124_0, fa124_1, fa200_0, fa200_1, fa200_2, fa200_3, Nat.reduceEqDiff]
    exact fin (toldL_full hfull (by omega))
  simp only [show (((toldL (topD gm ws) M n).length : Int) < M) from by omega, decide_true, zq18, zq19, zq20, zq21, zq22, zq23, zq24, zq25, zq26, zq27, zq28, zq4, zq3, zq1, zq2, zq0, zq29, zq30, zq14, zq15, zq16, zq17, zq13, zq10, zq12, zq11, zq7, zq5, zq6, zq9, zq8, zq31, zq32, ite_T, ite_F, zq33, zq34, zq35, len27, len24, len35, fa26_0, fa26_1, fa26_2, fa33_0, fa33_1, fa124_0, fa124_1, fa200_0, fa200_1, fa200_2, fa200_3, Nat.reduceEqDiff]
  refine (told_all (by omega) (by omega) hg hy hX hlen htok (cx := cx) (cy := cy) (be := be) (bt := bt) (bm := bm) (L := fun ents has E => bx be (cellsTold gm Y cy bt M bm) 200 :: bx bt (.slice X ws.length cx :: cellsT (spanT gm.rules ws)) 124 :: mpG bm ents has :: E) (fun _ _ _ => rfl) 1000).1 (A := 0) (i := 0) (j := ws.length) (s := n + 1) (E := [lss X1 c1 (toldL (topD gm ws) M n) ps1]) (by omega) (by omega) (Nat.zero_le _) (Nat.le_refl _) (by omega) hG H fun w7 ents7 has7 Xt ct tl hG7 hs7 H hheld hct hF => ?_
  obtain ⟨yst, readT⟩ := hheld.read
  have htl := hF.len
  obtain ⟨r, hr⟩ : ∃ r, r = M - (toldL (topD gm ws) M n).length := ⟨_, rfl⟩
  have hFr : firstsOf r (topD gm ws (n + 1)) = tl.take r := firstsOf_eq (hF.take (by omega))
  have e1 : toldL (topD gm ws) M (n + 1) = toldL (topD gm ws) M n ++ tl.take r := by rw [toldL, if_pos hfull, ← hr, hFr]
  simp only [zq18, zq19, zq20, zq21, zq22, zq23, zq24, zq25, zq26, zq27, zq28, zq4, zq3, zq1, zq2, zq0, zq29, zq30, zq14, zq15, zq16, zq17, zq13, zq10, zq12, zq11, zq7, zq5, zq6, zq9, zq8, zq31, zq32, ite_T, ite_F, zq33, zq34, zq35, len27, len24, len35, fa26_0, fa26_1, fa26_2, fa33_0, fa33_1, fa124_0, fa124_1, fa200_0, fa200_1, fa200_2, fa200_3, Nat.reduceEqDiff]
  refine loop_to tl.length 0 (fun a g w' => a ≤ tl.length ∧ g 61 = .int .i64 a ∧ g 12 = .int .i64 ((n + 1 : Nat) : Int) ∧ ∃ X' c' ps, g 11 = .slice X' (toldL (topD gm ws) M n ++ (tl.take a).take r).length c' ∧ Apt w w' (bx be (cellsTold gm Y cy bt M bm) 200 :: bx bt (.slice X ws.length cx :: cellsT (spanT gm.rules ws)) 124 :: mpG bm ents7 has7 :: [lss X' c' (toldL (topD gm ws) M n ++ (tl.take a).take r) ps]))
    ⟨Nat.zero_le _, rfl, h12, X1, c1, ps1, by rw [List.take_zero, List.take_nil, List.append_nil]; exact h11, by rw [List.take_zero, List.take_nil, List.append_nil]; exact H⟩ ?_
  clear H h11
  rintro a g w8 N2 hag2 ⟨ha, a61, a12, X2, c2, ps2, a11, H⟩ hN2
  have a60 : g 60 = .int .i64 tl.length := hag2 60 (by decide)
  have a59 : g 59 = .slice Xt tl.length ct := hag2 59 (by decide)
  have a3' : g 3 = .int .i64 M := (hag2 3 (by decide)).trans f3
  simp only [a60, a61, zq18, zq19, zq20, zq21, zq22, zq23, zq24, zq25, zq26, zq27, zq28, zq4, zq3, zq1, zq2, zq0, zq29, zq30, zq14, zq15, zq16, zq17, zq13, zq10, zq12, zq11, zq7, zq5, zq6, zq9, zq8, zq31, zq32, ite_T, ite_F, zq33, zq34, zq35, len27, len24, len35, fa26_0, fa26_1, fa26_2, fa33_0, fa33_1, fa124_0, fa124_1, fa200_0, fa200_1, fa200_2, fa200_3, Nat.reduceEqDiff]
  by_cases hal : a < tl.length
  case neg =>
    simp only [show ¬ ((a : Int) < tl.length) from by omega, decide_false, zq18, zq19, zq20, zq21, zq22, zq23, zq24, zq25, zq26, zq27, zq28, zq4, zq3, zq1, zq2, zq0, zq29, zq30, zq14, zq15, zq16, zq17, zq13, zq10, zq12, zq11, zq7, zq5, zq6, zq9, zq8, zq31, zq32, ite_T, ite_F, zq33, zq34, zq35, len27, len24, len35, fa26_0, fa26_1, fa26_2, fa33_0, fa33_1, fa124_0, fa124_1, fa200_0, fa200_1, fa200_2, fa200_3, Nat.reduceEqDiff]
    simp only [a12, zq18, zq19, zq20, zq21, zq22, zq23, zq24, zq25, zq26, zq27, zq28, zq4, zq3, zq1, zq2, zq0, zq29, zq30, zq14, zq15, zq16, zq17, zq13, zq10, zq12, zq11, zq7, zq5, zq6, zq9, zq8, zq31, zq32, ite_T, ite_F, zq33, zq34, zq35, len27, len24, len35, fa26_0, fa26_1, fa26_2, fa33_0, fa33_1, fa124_0, fa124_1, fa200_0, fa200_1, fa200_2, fa200_3, Nat.reduceEqDiff]
    rw [i64_of (by omega) (by omega)]
    rw [List.take_of_length_le (show tl.length ≤ a by omega), ← e1] at a11 H
    exact hN _ _ hlt ⟨hlt, by show Value.int .i64 (((n + 1 : Nat) : Int) + 1) = _; congr 1, ents7, has7, X2, c2, ps2, a11, hG7, H⟩
  simp only [show ((a : Int) < tl.length) from by omega, decide_true, zq18, zq19, zq20, zq21, zq22, zq23, zq24, zq25, zq26, zq27, zq28, zq4, zq3, zq1, zq2, zq0, zq29, zq30, zq14, zq15, zq16, zq17, zq13, zq10, zq12, zq11, zq7, zq5, zq6, zq9, zq8, zq31, zq32, ite_T, ite_F, zq33, zq34, zq35, len27, len24, len35, fa26_0, fa26_1, fa26_2, fa33_0, fa33_1, fa124_0, fa124_1, fa200_0, fa200_1, fa200_2, fa200_3, Nat.reduceEqDiff]
  have hstep : (tl.take (a + 1)).take r = if a < r then (tl.take a).take r ++ [rgt tl a] else (tl.take a).take r := by
    rw [take_snoc_rgt hal, take_step, List.length_take, Nat.min_eq_left (by omega)]
  refine join_as (fun g w' => g 61 = .int .i64 a ∧ g 12 = .int .i64 ((n + 1 : Nat) : Int) ∧ ∃ X' c' ps, g 11 = .slice X' (toldL (topD gm ws) M n ++ (tl.take (a + 1)).take r).length c' ∧ Apt w w' (bx be (cellsTold gm Y cy bt M bm) 200 :: bx bt (.slice X ws.length cx :: cellsT (spanT gm.rules ws)) 124 :: mpG bm ents7 has7 :: [lss X' c' (toldL (topD gm ws) M n ++ (tl.take (a + 1)).take r) ps])) (fun K6 hK6 => ?_) ?_
  case refine_2 =>
    rintro g w' ⟨g61, hrest⟩
    simp only [g61, zq18, zq19, zq20, zq21, zq22, zq23, zq24, zq25, zq26, zq27, zq28, zq4, zq3, zq1, zq2, zq0, zq29, zq30, zq14, zq15, zq16, zq17, zq13, zq10, zq12, zq11, zq7, zq5, zq6, zq9, zq8, zq31, zq32, ite_T, ite_F, zq33, zq34, zq35, len27, len24, len35, fa26_0, fa26_1, fa26_2, fa33_0, fa33_1, fa124_0, fa124_1, fa200_0, fa200_1, fa200_2, fa200_3, Nat.reduceEqDiff]
    rw [i64_of (by omega) (by omega)]
    exact hN2 _ _ hal ⟨hal, rfl, hrest⟩
  simp only [a59, a11, a3', zq18, zq19, zq20, zq21, zq22, zq23, zq24, zq25, zq26, zq27, zq28, zq4, zq3, zq1, zq2, zq0, zq29, zq30, zq14, zq15, zq16, zq17, zq13, zq10, zq12, zq11, zq7, zq5, zq6, zq9, zq8, zq31, zq32, ite_T, ite_F, zq33, zq34, zq35, len27, len24, len35, fa26_0, fa26_1, fa26_2, fa33_0, fa33_1, fa124_0, fa124_1, fa200_0, fa200_1, fa200_2, fa200_3, Nat.reduceEqDiff]
  have hreadT := readT H 2 rfl
  obtain ⟨tb1, tb2, tb3⟩ := hreadT.row a hal
  have hbl : (rgt tl a).length = n + 1 := der_len (hF.mem _ (rgt_mem hal))
  refine rdi (ixn35 hreadT.ptr hal) (rdi (ld27 tb1) ?_)
  have hlc : (toldL (topD gm ws) M n ++ (tl.take a).take r).length = (toldL (topD gm ws) M n).length + min r a := by
    rw [List.length_append, List.length_take, List.length_take]
    omega
  by_cases har : a < r
  case neg =>
    simp only [show ¬ (((toldL (topD gm ws) M n ++ (tl.take a).take r).length : Int) < (M : Int)) from by omega, decide_false, zq18, zq19, zq20, zq21, zq22, zq23, zq24, zq25, zq26, zq27, zq28, zq4, zq3, zq1, zq2, zq0, zq29, zq30, zq14, zq15, zq16, zq17, zq13, zq10, zq12, zq11, zq7, zq5, zq6, zq9, zq8, zq31, zq32, ite_T, ite_F, zq33, zq34, zq35, len27, len24, len35, fa26_0, fa26_1, fa26_2, fa33_0, fa33_1, fa124_0, fa124_1, fa200_0, fa200_1, fa200_2, fa200_3, Nat.reduceEqDiff]
    rw [if_neg har] at hstep
    exact hK6 _ _ ⟨a61, a12, X2, c2, ps2, by rw [hstep]; exact a11, by rw [hstep]; exact H⟩
  simp only [show (((toldL (topD gm ws) M n ++ (tl.take a).take r).length : Int) < (M : Int)) from by omega, decide_true, zq18, zq19, zq20, zq21, zq22, zq23, zq24, zq25, zq26, zq27, zq28, zq4, zq3, zq1, zq2, zq0, zq29, zq30, zq14, zq15, zq16, zq17, zq13, zq10, zq12, zq11, zq7, zq5, zq6, zq9, zq8, zq31, zq32, ite_T, ite_F, zq33, zq34, zq35, len27, len24, len35, fa26_0, fa26_1, fa26_2, fa33_0, fa33_1, fa124_0, fa124_1, fa200_0, fa200_1, fa200_2, fa200_3, Nat.reduceEqDiff]
  rw [if_pos har] at hstep
  refine do_build_of u27 inf3 (cells := []) (by decide) (by decide) (by simp [Instr.fill, madeCells]) rfl fun b6 w9 hb1 hb2 g6 hB6 hr6 => ?_
  have H := H.addOwn (xs := []) g6 (hr6 _ (Nat.le_refl _))
  simp only [List.nil_append, List.cons_append] at H
  refine apH H 4 rfl (((readT H 2 rfl).row a hal).2.2.is) rfl rfl (by simp; omega) fun X7 c7 w10 H => ?_
  simp only [List.set_cons_zero, List.set_cons_succ] at H
  refine pushSSH H 3 4 (by decide) rfl rfl rfl rfl (by omega) fun t8 X9 c9 w11 ps9 H => ?_
  simp only [List.set_cons_zero, List.set_cons_succ] at H
  have H := H.erase 4
  simp only [List.eraseIdx_cons_zero, List.eraseIdx_cons_succ] at H
  have e : toldL (topD gm ws) M n ++ (tl.take (a + 1)).take r = toldL (topD gm ws) M n ++ (tl.take a).take r ++ [[] ++ rgt tl a] := by
    rw [hstep, List.append_assoc]
    rfl
  refine hK6 _ _ ⟨a61, a12, X9, c9, ps9, ?_, ?_⟩
  · rw [e]
    rfl
  · rw [e]
    exact H
end Go.Proofs.Ytegcjkhebecgbaa

/- Cc: bodies of functions as terms of the frame calculus, printed by shgen.py of this repository. -/
set_option linter.unusedVariables false
set_option maxRecDepth 100000
namespace Go.Proofs.Ytegcjkhebecgbaa
open Go Go.Sh

/-! loop.example/g00758/spec.l1Has -/
/-! loop.example/g00758/spec.l1Put -/
/-! loop.example/g00758/spec.l3Close -/
/-! loop.example/g00758/spec.l3Reached -/
/-! loop.example/g00758/spec.l3Useful -/
/-! loop.example/g00758/spec.l3Growing -/
/-! loop.example/g00758/spec.UsefulOf -/
/-! loop.example/g00758/spec.DrawIsUseful -/
/-! loop.example/g00758/spec.IsUseful -/
/-! loop.example/g00758/spec.NullableOf -/
/-! loop.example/g00758/spec.ProductiveOf -/
/-! loop.example/g00758/spec.ReachedOf -/
/-! loop.example/g00758/spec.GrowingOf -/
/-! loop.example/g00758/spec.LeastLong -/
/-! loop.example/g00758/spec.DrawGoodGrammar -/
def pl173 : Plans := fun _ => ⟨false, [], .nil⟩
def S173 (v0 : Value) (k : Value → World → Prop) (w : World) : Prop :=
 Do Try.prog (sAlloc 26) (fun t1 w2 =>
 Rd Try.prog (WS.at w2) (sBuild 114 [(0, v0)]) fun t3 =>
 Do Try.prog (sBox 114 t3) (fun t4 w5 =>
 CallK Try.prog 145 [t4] (fun t6 w7 =>
 Do Try.prog (sStore 26 t1 t6) (fun _ w8 =>
 Rd Try.prog (WS.at w8) (sLoadVar 26 t1) fun t9 => k t9 w8) w7) w5) w2) w
theorem body173 : Try.f173.body = some (bodyOf Try.f173) := by kernel_rfl
theorem same173 (v0 : Value) (k : Value → World → Prop) (w : World) : wpF Try.prog pl173 (bodyOf Try.f173) (bodyQ Try.prog Try.f173.results.toList k) (initF [v0]) w = S173 v0 k w := by kernel_rfl
theorem enter173 {v0 : Value} {k : Value → World → Prop} {w : World} (h : S173 v0 k w) : CallK Try.prog 173 [v0] k w :=
  call_of_wpF (pl := pl173) mixed Try.func173 body173 (by kernel_rfl) (of_decide_eq_true (by kernel_rfl)) (by kernel_rfl) (by kernel_rfl) (Eq.mpr (same173 v0 k w) h)

/-! loop.example/g00758/spec.DrawIsFinite -/
/-! loop.example/g00758/spec.DrawLeastLong -/
/-! loop.example/g00758/spec.DrawLongEnough -/
def pl124 : Plans := fun _ => ⟨false, [], .nil⟩
def S124 (v0 : Value) (k : Value → World → Prop) (w : World) : Prop :=
 Do Try.prog (sAlloc 26) (fun t1 w2 =>
 CallK Try.prog 173 [v0] (fun t3 w4 =>
 Do Try.prog (sStore 26 t1 t3) (fun _ w5 =>
 Rd Try.prog (WS.at w5) (sLoadVar 26 t1) fun t6 => k t6 w5) w4) w2) w
theorem body124 : Try.f124.body = some (bodyOf Try.f124) := by kernel_rfl
theorem same124 (v0 : Value) (k : Value → World → Prop) (w : World) : wpF Try.prog pl124 (bodyOf Try.f124) (bodyQ Try.prog Try.f124.results.toList k) (initF [v0]) w = S124 v0 k w := by kernel_rfl
theorem enter124 {v0 : Value} {k : Value → World → Prop} {w : World} (h : S124 v0 k w) : CallK Try.prog 124 [v0] k w :=
  call_of_wpF (pl := pl124) mixed Try.func124 body124 (by kernel_rfl) (of_decide_eq_true (by kernel_rfl)) (by kernel_rfl) (by kernel_rfl) (Eq.mpr (same124 v0 k w) h)

/-! loop.example/g00758/spec.DrawStarOf -/
/-! loop.example/g00758/spec.DrawSizeOf -/
end Go.Proofs.Ytegcjkhebecgbaa
