/- Worlds that change in some blocks; rules and grammars in memory: read, owned, kept. -/
import Derived.Test.YtiohaeckagjebaaShC4
set_option linter.unusedVariables false
set_option linter.unusedSimpArgs false
set_option maxRecDepth 100000
namespace Go.Sh
open Go
/-- A world that has grown, of which only blocks of D may have changed. -/
structure Gx (D : Nat → Prop) (w w' : World) : Prop where
  os : w'.os = w.os
  tape : w'.tape = w.tape
  output : w'.output = w.output
  size : w.heap.size ≤ w'.heap.size
  block : ∀ k, k < w.heap.size → ¬ D k → w'.heap[k]? = w.heap[k]?
theorem Gx.refl (D : Nat → Prop) (w : World) : Gx D w w := ⟨rfl, rfl, rfl, Nat.le_refl _, fun _ _ _ => rfl⟩
theorem gx_of_gr {w w' : World} (g : Gr w w') (D : Nat → Prop) : Gx D w w' := ⟨g.os, g.tape, g.output, g.size, fun k hk _ => g.block k hk (by simp)⟩
theorem gx_of {w w' : World} {r : Option Nat} {D : Nat → Prop} (g : w.grownBy w' r) (h : ∀ q, r = some q → D q) : Gx D w w' := ⟨g.os, g.tape, g.output, g.size, fun k hk hn => g.block k hk fun e => hn (h k e.symm)⟩
theorem Gx.trans {D : Nat → Prop} {a b c : World} (h : Gx D a b) (g : Gx D b c) : Gx D a c :=
  ⟨g.os.trans h.os, g.tape.trans h.tape, g.output.trans h.output, Nat.le_trans h.size g.size, fun k hk hn => (g.block k (Nat.lt_of_lt_of_le hk h.size) hn).trans (h.block k hk hn)⟩
theorem Gx.gr {D : Nat → Prop} {w w' : World} (g : Gx D w w') (h : ∀ k, D k → w.heap.size ≤ k) : Gr w w' :=
  ⟨g.os, g.tape, g.output, g.size, fun k hk _ => g.block k hk fun hd => by have := h k hd; omega⟩
/-- After growth, a change in blocks that are younger or of D. -/
theorem Gx.after {D E : Nat → Prop} {a b c : World} (h : Gx D a b) (g : Gx E b c) (hE : ∀ k, E k → k < a.heap.size → D k) : Gx D a c :=
  ⟨g.os.trans h.os, g.tape.trans h.tape, g.output.trans h.output, Nat.le_trans h.size g.size, fun k hk hn => (g.block k (Nat.lt_of_lt_of_le hk h.size) fun he => hn (hE k he hk)).trans (h.block k hk hn)⟩
theorem Gx.gr_after {E : Nat → Prop} {a b c : World} (h : Gr a b) (g : Gx E b c) (hE : ∀ k, E k → a.heap.size ≤ k) : Gr a c :=
  ((gx_of_gr h fun _ => False).after g fun k he hk => by have := hE k he; omega).gr fun k hk => hk.elim
theorem lt_of_cell {w : World} {a : Addr} {v : Value} (h : w.cell? a = some v) : a.block < w.heap.size := by
  refine Classical.byContradiction fun hn => ?_
  have : w.heap[a.block]? = none := Array.getElem?_eq_none (by omega)
  simp [World.cell?, this] at h
theorem Gx.cell {D : Nat → Prop} {w w' : World} (g : Gx D w w') {a : Addr} {v : Value} (hc : w.cell? a = some v) (hn : ¬ D a.block) : w'.cell? a = some v := by
  rw [World.cell?_of_block (g.block _ (lt_of_cell hc) hn)]
  exact hc
theorem add_block (a : Addr) (j : Nat) : (a.add j).block = a.block := by
  unfold Addr.add
  split <;> rfl
theorem Row.gx {D : Nat → Prop} {w w' : World} {B e sz n c : Nat} {X : Option Addr} {cells : List Value} (h : Row w B e sz X n c cells) (g : Gx D w w') (hn : ∀ q, blk X = some q → ¬ D q) : Row w' B e sz X n c cells := by
  obtain ⟨hl, h2⟩ := h
  refine ⟨hl, ?_⟩
  rcases h2 with h2 | ⟨q, cap, cur, e1, e2, e3, e4⟩
  · exact .inl h2
  · refine .inr ⟨q, cap, cur, e1, e2, ?_, e4⟩
    obtain ⟨rfl, _, _⟩ : X = some ⟨q, 0, none⟩ ∧ n = n ∧ c = cap := by simpa using e1
    rw [g.block q (Array.getElem?_eq_some_iff.1 e3).1 (hn q rfl)]
    exact e3
theorem Box.gx {D : Nat → Prop} {w w' : World} {b t : Nat} {cs : List Value} (h : Box w b cs t) (g : Gx D w w') (hn : ¬ D b) : Box w' b cs t := by
  unfold Box
  rw [g.block b h.lt hn]
  exact h

/-- A slice of ints that is read; it lies in F. -/
structure IntsF (F : Nat → Prop) (w : World) (X : Option Addr) (xs : List Int) : Prop where
  is : Ints w X xs
  foot : 0 < xs.length → F (ad X).block
theorem IntsF.gx {F D : Nat → Prop} {w w' : World} {X : Option Addr} {xs : List Int} (h : IntsF F w X xs) (g : Gx D w w') (hn : ∀ b, F b → ¬ D b) : IntsF F w' X xs :=
  ⟨⟨h.is.le, h.is.ptr, fun j hj => g.cell (h.is.cell j hj) (by rw [add_block]; exact hn _ (h.foot (by omega)))⟩, h.foot⟩
theorem IntsF.gr {F : Nat → Prop} {w w' : World} {X : Option Addr} {xs : List Int} (h : IntsF F w X xs) (g : Gr w w') : IntsF F w' X xs := ⟨h.is.gr g, h.foot⟩
theorem IntsF.mono {F E : Nat → Prop} {w : World} {X : Option Addr} {xs : List Int} (h : IntsF F w X xs) (he : ∀ b, F b → E b) : IntsF E w X xs := ⟨h.is, fun hp => he _ (h.foot hp)⟩
theorem IntsF.of_ints {w : World} {X : Option Addr} {xs : List Int} (h : Ints w X xs) : IntsF (fun b => b < w.heap.size) w X xs :=
  ⟨h, fun hp => by have := lt_of_cell (h.cell 0 hp); rwa [add_block] at this⟩
theorem IntsF.of_own {e w B X c xs} (h : Own e w B X c xs) : IntsF (fun b => B ≤ b ∧ b < w.heap.size) w X xs :=
  ⟨Own.ints h, fun hp => by
    have hq : X = some (ad X) := Row.ptr h hp
    exact Row.ge h (q := (ad X).block) (by rw [hq]; rfl)⟩

abbrev RuleL := Int × List Int
def rul (rs : List RuleL) (j : Nat) : RuleL := rs.getD j (0, [])
theorem rul_eq {rs : List RuleL} {j : Nat} (h : j < rs.length) : rul rs j = rs[j] := by simp [rul, List.getD_eq_getElem?_getD, h]
/-- A slice of rules that is read; it lies in F. -/
structure RulesF (F : Nat → Prop) (w : World) (X : Option Addr) (rs : List RuleL) : Prop where
  le : rs.length ≤ 9223372036854775807
  ptr : 0 < rs.length → X = some (ad X)
  foot : 0 < rs.length → F (ad X).block
  row : ∀ j, j < rs.length → ∃ Y c, w.cell? ((ad X).add (j * 2)) = some (.int .i64 (rul rs j).1) ∧ w.cell? ((ad X).add (j * 2 + 1)) = some (.slice Y (rul rs j).2.length c) ∧ (rul rs j).2.length ≤ c ∧ IntsF F w Y (rul rs j).2
theorem RulesF.gx {F D : Nat → Prop} {w w' : World} {X : Option Addr} {rs : List RuleL} (h : RulesF F w X rs) (g : Gx D w w') (hn : ∀ b, F b → ¬ D b) : RulesF F w' X rs := by
  refine ⟨h.le, h.ptr, h.foot, fun j hj => ?_⟩
  obtain ⟨Y, c, h1, h2, h3, h4⟩ := h.row j hj
  have hf := hn _ (h.foot (by omega))
  exact ⟨Y, c, g.cell h1 (by rw [add_block]; exact hf), g.cell h2 (by rw [add_block]; exact hf), h3, h4.gx g hn⟩
theorem RulesF.gr {F : Nat → Prop} {w w' : World} {X : Option Addr} {rs : List RuleL} (h : RulesF F w X rs) (g : Gr w w') : RulesF F w' X rs :=
  h.gx (gx_of_gr g fun _ => False) fun _ _ h => h
theorem RulesF.mono {F E : Nat → Prop} {w : World} {X : Option Addr} {rs : List RuleL} (h : RulesF F w X rs) (he : ∀ b, F b → E b) : RulesF E w X rs := by
  refine ⟨h.le, h.ptr, fun hp => he _ (h.foot hp), fun j hj => ?_⟩
  obtain ⟨Y, c, h1, h2, h3, h4⟩ := h.row j hj
  exact ⟨Y, c, h1, h2, h3, h4.mono he⟩
/-- A rule as a value. -/
def RuleV (F : Nat → Prop) (w : World) (v : Value) (r : RuleL) : Prop := ∃ Y c, v = .agg #[.int .i64 r.1, .slice Y r.2.length c] ∧ r.2.length ≤ c ∧ IntsF F w Y r.2
theorem RuleV.gr {F : Nat → Prop} {w w' : World} {v : Value} {r : RuleL} (h : RuleV F w v r) (g : Gr w w') : RuleV F w' v r := by
  obtain ⟨Y, c, h1, h2, h3⟩ := h
  exact ⟨Y, c, h1, h2, h3.gr g⟩
structure Gram where
  nons : Int
  toks : Int
  rules : List RuleL
deriving DecidableEq
/-- A grammar as a value. -/
def GramV (F : Nat → Prop) (w : World) (v : Value) (g : Gram) : Prop := ∃ X c, v = .agg #[.int .i64 g.nons, .int .i64 g.toks, .slice X g.rules.length c] ∧ g.rules.length ≤ c ∧ RulesF F w X g.rules
theorem GramV.gr {F : Nat → Prop} {w w' : World} {v : Value} {r : Gram} (h : GramV F w v r) (g : Gr w w') : GramV F w' v r := by
  obtain ⟨Y, c, h1, h2, h3⟩ := h
  exact ⟨Y, c, h1, h2, h3.gr g⟩
theorem GramV.gx {F D : Nat → Prop} {w w' : World} {v : Value} {r : Gram} (h : GramV F w v r) (g : Gx D w w') (hn : ∀ b, F b → ¬ D b) : GramV F w' v r := by
  obtain ⟨Y, c, h1, h2, h3⟩ := h
  exact ⟨Y, c, h1, h2, h3.gx g hn⟩
theorem GramV.mono {F E : Nat → Prop} {w : World} {v : Value} {r : Gram} (h : GramV F w v r) (he : ∀ b, F b → E b) : GramV E w v r := by
  obtain ⟨Y, c, h1, h2, h3⟩ := h
  exact ⟨Y, c, h1, h2, h3.mono he⟩
theorem ld_agg {P : Program} {t : TypeId} {n : Nat} (ht : agg P t) (hs : szOf P t n) {w : World} {a : Addr} {cs : List Value} (hn : cs.length = n) (h : ∀ j (h : j < cs.length), w.cell? (a.add j) = some cs[j]) {k : Value → Prop} :
    Rd P (WS.at w) (sLoad t (.pointer (some a))) k = k (.agg cs.toArray) := rd_loadAgg ht hs hn (fun w' hw => by cases hw; exact h)
theorem ldB_agg {P : Program} {t : TypeId} {n : Nat} (ht : agg P t) (hs : szOf P t n) {w : World} {b e : Nat} {cs : List Value} (hn : cs.length = n) (hb : Box w b cs e) {k : Value → Prop} :
    Rd P (WS.at w) (sLoad t (.pointer (some ⟨b, 0, none⟩))) k = k (.agg cs.toArray) := ld_agg ht hs hn fun j hj => by
  rw [add_plain, Nat.zero_add, hb.cell, List.getElem?_eq_getElem hj]
theorem ld_rule {P : Program} {t : TypeId} (ht : agg P t) (hs : szOf P t 2) {F : Nat → Prop} {w : World} {X : Option Addr} {rs : List RuleL} (hx : RulesF F w X rs) {j : Nat} (hj : j < rs.length) {k : Value → Prop}
    (hk : ∀ v, RuleV F w v (rul rs j) → k v) : Rd P (WS.at w) (sLoad t (.pointer (some ((ad X).add (j * 2))))) k := by
  obtain ⟨Y, c, h1, h2, h3, h4⟩ := hx.row j hj
  rw [ld_agg ht hs (cs := [.int .i64 (rul rs j).1, .slice Y (rul rs j).2.length c]) rfl]
  · exact hk _ ⟨Y, c, rfl, h3, h4⟩
  · intro i hi
    match i, hi with
    | 0, _ => rw [add_add, Nat.add_zero]; exact h1
    | 1, _ => rw [add_add]; exact h2
end Go.Sh
