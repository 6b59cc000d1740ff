/- The frame calculus, fourth part: rows of the call's own, what is appended, cut, made. -/
import Derived.Test.YtiohaeckagjebaaSh2
set_option linter.unusedVariables false
set_option linter.unusedSimpArgs false
namespace Go.Sh
open Go

theorem inf_of {P : Program} {e n m : Nat} {z : Value} (h : (P.info? e).map (fun i => (i.zero, i.size, i.bytes)) = some (some z, n, m)) : ∃ i, P.info? e = some i ∧ i.zero = some z ∧ i.size = n ∧ i.bytes = m := by
  cases hi : P.info? e with
  | none => rw [hi] at h; cases h
  | some i =>
    rw [hi] at h
    simp only [Option.map_some, Option.some.injEq, Prod.mk.injEq] at h
    exact ⟨i, rfl, h.1, h.2.1, h.2.2⟩
def blk (X : Option Addr) : Option Nat := X.map (·.block)
/-- A row of n elements of type e (sz cells each) in a block from B on, of nobody else. -/
def Row (w : World) (B : Nat) (e sz : Nat) (X : Option Addr) (n c : Nat) (cells : List Value) : Prop := w.ownsRow B e sz (.slice X n c) n cells
/-- m cells that can be read behind an address. -/
structure Src (w : World) (Y : Option Addr) (cells : List Value) : Prop where
  ptr : cells ≠ [] → Y = some (ad Y)
  cell : ∀ j u, cells[j]? = some u → w.cell? ((ad Y).add j) = some u

theorem own_eq {X : Option Addr} {n c : Nat} : (Value.slice X n c).ownBlock = blk X := by cases X <;> rfl
theorem Row.kept {w w' : World} {B e sz n c : Nat} {X : Option Addr} {cells : List Value} {r : Option Nat} (h : Row w B e sz X n c cells) (g : w.grownBy w' r) (hr : blk X = none ∨ blk X ≠ r) : Row w' B e sz X n c cells :=
  World.ownsRow.kept h g (by rw [own_eq]; exact hr)
theorem Row.gr {w w' : World} {B e sz n c : Nat} {X : Option Addr} {cells : List Value} (h : Row w B e sz X n c cells) (g : Gr w w') : Row w' B e sz X n c cells :=
  h.kept g (by cases hb : blk X <;> simp)
theorem Row.at_ {w : World} {B e sz n c : Nat} {X : Option Addr} {cells : List Value} (h : Row w B e sz X n c cells) : (X = none ∧ n = 0 ∧ c = 0) ∨ ∃ g, X = some ⟨g, 0, none⟩ ∧ B ≤ g ∧ g < w.heap.size := by
  rcases h.2 with ⟨h1, h2⟩ | ⟨g, cap, cur, h1, hb, hg, _⟩
  · simp only [Value.slice.injEq] at h1
    exact .inl ⟨h1.1, h2, h1.2.2⟩
  · simp only [Value.slice.injEq] at h1
    exact .inr ⟨g, h1.1, hb, (Array.getElem?_eq_some_iff.1 hg).1⟩
theorem Row.ge {w : World} {B e sz n c : Nat} {X : Option Addr} {cells : List Value} (h : Row w B e sz X n c cells) {q : Nat} (hq : blk X = some q) : B ≤ q ∧ q < w.heap.size := by
  rcases h.at_ with ⟨rfl, _⟩ | ⟨g, rfl, h1, h2⟩
  · cases hq
  · simp only [blk, Option.map_some, Option.some.injEq] at hq
    exact hq ▸ ⟨h1, h2⟩
theorem Row.len {w : World} {B e sz n c : Nat} {X : Option Addr} {cells : List Value} (h : Row w B e sz X n c cells) : cells.length = n * sz := h.1
theorem Row.cap {w : World} {B e sz n c : Nat} {X : Option Addr} {cells : List Value} (h : Row w B e sz X n c cells) : n ≤ c ∧ c ≤ 9223372036854775807 := by
  rcases h.2 with ⟨h1, h2⟩ | ⟨g, cap, cur, h1, hb, hg, hn, hm, _⟩
  · simp only [Value.slice.injEq] at h1
    omega
  · simp only [Value.slice.injEq] at h1
    obtain ⟨_, _, rfl⟩ := h1
    unfold maxLen at hm
    omega
theorem Row.src {w : World} {B e sz n c : Nat} {X : Option Addr} {cells : List Value} (h : Row w B e sz X n c cells) : Src w X cells := by
  rcases h.at_ with ⟨rfl, rfl, _⟩ | ⟨g, rfl, h1, h2⟩
  · have hl := h.len
    rw [Nat.zero_mul] at hl
    have : cells = [] := List.eq_nil_of_length_eq_zero hl
    subst this
    exact ⟨fun h => absurd rfl h, fun j u hu => by simp at hu⟩
  · exact ⟨fun _ => rfl, World.ownsRow.cells h rfl⟩
theorem Row.ptr {w : World} {B e sz n c : Nat} {X : Option Addr} {cells : List Value} (h : Row w B e sz X n c cells) (hn : 0 < n) : X = some (ad X) := by
  rcases h.at_ with ⟨rfl, rfl, _⟩ | ⟨g, rfl, _⟩
  · omega
  · rfl
theorem Row.nil (w : World) (B e sz : Nat) : Row w B e sz none 0 0 [] := World.ownsRow_nil w B e sz
theorem Row.mono {w : World} {B B' e sz n c : Nat} {X : Option Addr} {cells : List Value} (h : Row w B e sz X n c cells) (hb : B' ≤ B) : Row w B' e sz X n c cells := by
  refine ⟨h.1, ?_⟩
  rcases h.2 with h1 | ⟨g, cap, cur, h1, h2, h3⟩
  · exact .inl h1
  · exact .inr ⟨g, cap, cur, h1, by omega, h3⟩
theorem Row.new {w : World} {B e sz n : Nat} {cs : List Value} (hb : B ≤ w.heap.size) (hn : n ≤ 9223372036854775807) (hl : cs.length = n * sz) : Row (w.alloc (.cells cs.toArray e)) B e sz (some ⟨w.heap.size, 0, none⟩) n n cs := by
  have := World.ownsRow_lit (base := B) (e := e) (size := sz) w cs.toArray n hb (by unfold maxLen; omega) (by simpa using hl)
  simpa [Row] using this

theorem Src.gr {w w' : World} {Y : Option Addr} {cells : List Value} (h : Src w Y cells) (g : Gr w w') : Src w' Y cells := ⟨h.ptr, fun j u hu => g.cell (h.cell j u hu)⟩
theorem Src.nil (w : World) (Y : Option Addr) : Src w Y [] := ⟨fun h => absurd rfl h, fun j u hu => by simp at hu⟩
/-- Where s[l:h] begins. -/
def sub (X : Option Addr) (l c sz : Nat) : Option Addr := if c = l then X else X.map (·.add (l * sz))
theorem Src.sub {w : World} {X : Option Addr} {cells : List Value} (h : Src w X cells) {l c sz : Nat} (hl : l * sz ≤ cells.length) (hc : cells.length ≤ c * sz) (m : Nat) : Src w (sub X l c sz) ((cells.drop (l * sz)).take m) := by
  by_cases he : c = l
  · subst he
    have : cells.drop (c * sz) = [] := List.drop_eq_nil_of_le hc
    rw [this, List.take_nil]
    exact Src.nil _ _
  · unfold Sh.sub
    rw [if_neg he]
    refine ⟨fun hne => ?_, fun j u hu => ?_⟩
    · have : cells ≠ [] := by
        rintro rfl
        simp at hne
      rw [h.ptr this]
      rfl
    · have hu' : cells[l * sz + j]? = some u := by
        rw [List.getElem?_take] at hu
        split at hu
        · rwa [List.getElem?_drop] at hu
        · cases hu
      have hne : cells ≠ [] := by
        rintro rfl
        simp at hu'
      have := h.cell _ _ hu'
      rw [h.ptr hne]
      show w.cell? (((ad X).add (l * sz)).add j) = some u
      rw [add_add]
      exact this

section
variable {P : Program} {S : WS} {k : Value → Prop}
theorem run_underlying' {t : TypeId} {d : TypeDesc} (h : P.underlying t = some d) (w : World) : (underlying t).run P w = .ok d w := run_underlying h w
theorem run_slice {t e sz : Nat} (ht : P.underlying t = some (.slice e)) (hs : szOf P e sz) {X : Option Addr} {n c : Nat} {lo hi : Option Value} {l h : Nat} {w : World}
    (hb : (Instr.sliceBounds true n c lo hi none).run P w = .ok (l, h, c) w) : (Instr.sliceAt t (.slice X n c) lo hi none).run P w = .ok (.slice (sub X l c sz) (h - l) (c - l)) w := by
  unfold Instr.sliceAt
  simp only [Sem.run_bind, run_underlying ht, Result.andThen]
  unfold Instr.slice
  simp only [Sem.run_bind, run_underlying ht, Result.andThen, hb, run_size hs]
  rfl
theorem run_bound {kd : IntKind} {i : Int} {y : Nat} {code : BoundsCode} (h0 : 0 ≤ i) (h1 : i ≤ y) (w : World) : (Instr.sliceBound (.int kd i) y code).run P w = .ok i.toNat w := by
  simp [Instr.sliceBound, asIntOf, h0, h1]
theorem rd_slice_lh {t e sz : Nat} (ht : P.underlying t = some (.slice e)) (hs : szOf P e sz) {X : Option Addr} {n c : Nat} {kd kd' : IntKind} {l h : Int} (h0 : 0 ≤ l) (h1 : l ≤ h) (h2 : h ≤ c) :
    Rd P S (sSlice t (.slice X n c) (some (.int kd l)) (some (.int kd' h)) none) k = k (.slice (sub X l.toNat c sz) (h.toNat - l.toNat) (c - l.toNat)) := rd_eq fun w _ => by
  simp only [sSlice, Sem.run_bind]
  rw [run_slice ht hs (l := l.toNat) (h := h.toNat)]
  · rfl
  · simp only [Instr.sliceBounds, Sem.run_bind, Sem.run_pure, Result.andThen, run_bound (kd := kd') (y := c) (by omega) h2, run_bound (kd := kd) (y := h.toNat) h0 (by omega)]
theorem rd_slice_h {t e sz : Nat} (ht : P.underlying t = some (.slice e)) (hs : szOf P e sz) {X : Option Addr} {n c : Nat} {kd' : IntKind} {h : Int} (h1 : 0 ≤ h) (h2 : h ≤ c) :
    Rd P S (sSlice t (.slice X n c) none (some (.int kd' h)) none) k = k (.slice (sub X 0 c sz) h.toNat c) := rd_eq fun w _ => by
  simp only [sSlice, Sem.run_bind]
  rw [run_slice ht hs (l := 0) (h := h.toNat)]
  · rfl
  · simp only [Instr.sliceBounds, Sem.run_bind, Sem.run_pure, Result.andThen, run_bound (kd := kd') (y := c) (by omega) h2]
theorem rd_slice_l {t e sz : Nat} (ht : P.underlying t = some (.slice e)) (hs : szOf P e sz) {X : Option Addr} {n c : Nat} {kd : IntKind} {l : Int} (h0 : 0 ≤ l) (h1 : l ≤ n) :
    Rd P S (sSlice t (.slice X n c) (some (.int kd l)) none none) k = k (.slice (sub X l.toNat c sz) (n - l.toNat) (c - l.toNat)) := rd_eq fun w _ => by
  simp only [sSlice, Sem.run_bind]
  rw [run_slice ht hs (l := l.toNat) (h := n)]
  · rfl
  · simp only [Instr.sliceBounds, Sem.run_bind, Sem.run_pure, Result.andThen, run_bound (kd := kd) (y := n) h0 h1]
end

section
variable {P : Program} {k : Value → World → Prop} {w : World}
theorem run_append_none {t ty e : TypeId} {sz : Nat} (ht : P.underlying t = some (.slice e)) (hs : szOf P e sz) {X : Option Addr} {n c d : Nat} (hc : n ≤ c) :
    (Builtin.append_ #[t, t] ty #[.slice X n c, .slice none 0 d]).run P w = .ok (.slice X n c) w := by
  obtain ⟨i, hi, hn⟩ := hs
  cases X <;> simp [Builtin.append_, run_underlying ht, sizeOf, typeInfo, hi, Builtin.lenOf, Builtin.firstCells, hc, storeCells]
/-- append to a row of the call's own. -/
theorem do_append {t e u sz by' : Nat} {i : TypeInfo} {z : Value} (ht : P.underlying t = some (.slice e)) (hi : P.info? e = some i) (hz : i.zero = some z) (hsize : i.size = sz) (hby : i.bytes = by') (hzs : z.cells.size = sz) (hsz : 0 < sz)
    {cs : List Bool} {B n c m d : Nat} {X Y : Option Addr} {cells news : List Value} (hO : Row w B e sz X n c cells) (hS : Src w Y news) (hl : news.length = m * sz) (h1 : ∀ v ∈ news, v.oneCell' = true) (hm : (n + m) * by' ≤ 140737488355328) (hmax : n + m ≤ 9223372036854775807) (hB : B ≤ w.heap.size)
    (h : ∀ X' c' w', Row w' B e sz X' (n + m) c' (cells ++ news) → w.grownBy w' (blk X) → k (.slice X' (n + m) c') w') : Do P (sBuiltin .append #[t, t] u cs [.slice X n c, .slice Y m d]) k w := by
  have hrun : ∃ v' w', (Builtin.append_ #[t, t] u #[.slice X n c, .slice Y m d]).run P w = .ok v' w' ∧ w'.ownsRow B e sz v' (n + m) (cells ++ news) ∧ w.grownBy w' (blk X) := by
    cases Y with
    | none =>
      have hn : news = [] := by
        cases news with
        | nil => rfl
        | cons v vs => have := hS.ptr (by simp); cases this
      subst hn
      have hm0 : m = 0 := by
        rcases Nat.mul_eq_zero.1 (show m * sz = 0 from hl.symm) with h | h
        · exact h
        · omega
      subst hm0
      exact ⟨_, _, run_append_none ht ⟨i, hi, hsize⟩ hO.cap.1, by rw [List.append_nil, Nat.add_zero]; exact hO, gr_any (Gr.refl w) _⟩
    | some a =>
      obtain ⟨v', w', h1', h2', h3', _⟩ := run_append_own (P := P) (w := w) B t u e i z sz by' ht hi hz hsize hby hzs hsz _ n cells hO a m d news hl (fun j u hu => hS.cell j u hu) h1 (by unfold maxLen; omega) hm hB
      exact ⟨v', w', h1', h2', by rw [← own_eq]; exact h3'⟩
  obtain ⟨v', w', hr, ho, hg⟩ := hrun
  have e' : (sBuiltin .append #[t, t] u cs [.slice X n c, .slice Y m d]).run P w = .ok (.value v') w' := by
    simp only [sBuiltin, builtin, Sem.run_bind]
    rw [show [Value.slice X n c, Value.slice Y m d].toArray = #[.slice X n c, .slice Y m d] from rfl, hr]
    rfl
  rw [do_value e']
  rcases ho.2 with ⟨rfl, hn⟩ | ⟨g, cap, cur, rfl, rest⟩
  · have := h none 0 w' (by rw [hn] at ho ⊢; exact ho) hg
    rwa [hn] at this
  · exact h _ _ _ ho hg

theorem do_make {t e sz by' : Nat} {i : TypeInfo} {z : Value} (ht : P.underlying t = some (.slice e)) (hi : P.info? e = some i) (hz : i.zero = some z) (hsize : i.size = sz) (hby : i.bytes = by') {kl kc : IntKind} {n : Nat} (hm : by' * n ≤ 281474976710656) (hmax : n ≤ 9223372036854775807)
    (h : ∀ b w', w.heap.size ≤ b → b < w'.heap.size → Gr w w' → (∀ B, B ≤ w.heap.size → Row w' B e sz (some ⟨b, 0, none⟩) n n (madeCells z.cells (n * sz)).toList) → k (.slice (some ⟨b, 0, none⟩) n n) w') : Do P (sMakeSlice t (.int kl n) (.int kc n)) k w := by
  have key := fun B hB => run_make_full (P := P) w B t e i z sz ht hi hz hsize kl kc n (by rw [hby]; exact hm) (by unfold maxLen; omega) hB
  obtain ⟨w', hr, ho, hg⟩ := key w.heap.size (Nat.le_refl _)
  have e' : (sMakeSlice t (.int kl n) (.int kc n)).run P w = .ok (.value (.slice (some ⟨w.heap.size, 0, none⟩) n n)) w' := by
    simp only [sMakeSlice, Sem.run_bind, hr]
    rfl
  rw [do_value e']
  refine h _ _ (Nat.le_refl _) ?_ hg fun B hB => ?_
  · rcases (show Row w' w.heap.size e sz _ n n _ from ho).at_ with ⟨h1, _⟩ | ⟨g, h1, _, h3⟩
    · cases h1
    · simp only [Option.some.injEq, Addr.mk.injEq] at h1
      omega
  · obtain ⟨w'', hr', ho', _⟩ := key B hB
    rw [hr] at hr'
    injection hr' with _ e2
    rw [e2]
    exact ho'

theorem do_build {t e sz n : Nat} {i : TypeInfo} {z : Value} (ht : P.underlying t = some (.slice e)) (hi : P.info? e = some i) (hz : i.zero = some z) (hsize : i.size = sz) {ps : List (Nat × Value)} {cells : List Value} (hn : n * sz ≤ 16777216) (hn' : n ≤ 9223372036854775807)
    (hf : Instr.fill (fun j => some (j * sz, sz)) (madeCells (if n * sz = 0 then #[] else z.cells) (n * sz)) ps = some cells.toArray) (hl : cells.length = n * sz)
    (h : ∀ b w', w.heap.size ≤ b → b < w'.heap.size → Gr w w' → Box w' b cells e → (∀ B, B ≤ w.heap.size → Row w' B e sz (some ⟨b, 0, none⟩) n n cells) → k (.slice (some ⟨b, 0, none⟩) n n) w') : Do P (sBuildSlice t n ps) k w := by
  have e' : (sBuildSlice t n ps).run P w = .ok (.value (.slice (some ⟨w.heap.size, 0, none⟩) n n)) (w.alloc (.cells cells.toArray e)) := by
    simp only [sBuildSlice, Instr.buildSlice, Sem.run_bind, run_underlying ht, Result.andThen, run_size ⟨i, hi, hsize⟩]
    rw [if_neg (by omega)]
    unfold madeCells at hf
    have e0 : (zeroValue e).run P w = .ok z w := by simp [zeroValue, run_info hi, hz]
    by_cases h0 : n * sz = 0
    · rw [if_pos h0] at hf ⊢
      simp only [Sem.run_bind, Sem.run_pure, Result.andThen, hf]
      rfl
    · rw [if_neg h0] at hf ⊢
      simp only [Sem.run_bind, Sem.run_pure, Result.andThen, e0, hf]
      rfl
  rw [do_value e']
  exact h _ _ (Nat.le_refl _) (by simp) (gr_alloc w _) (heap_alloc_new w _) fun B hB => Row.new hB hn' hl
/-- A store of one cell into a row of the call's own. -/
theorem do_store_row {t B e sz n c j : Nat} {X : Option Addr} {cells : List Value} {v : Value} (hs : szOf P t 1) (hv : v.cells.toList = [v]) (h1 : v.oneCell' = true) (hO : Row w B e sz X n c cells) (hj : j < n * sz)
    (h : ∀ w', w.grownBy w' (blk X) → w'.heap.size = w.heap.size → Row w' B e sz X n c (cells.set j v) → k undef w') : Do P (sStore t (.pointer (some ((ad X).add j))) v) k w := by
  rcases hO.at_ with ⟨rfl, rfl, _⟩ | ⟨g, rfl, hb, hg⟩
  · simp at hj
  have hst := World.ownsRow.stored hO j v
  have hcell : w.cell? ⟨g, j, none⟩ = cells[j]? := World.ownsRow.cellAt hO j hj
  have hlen := hO.len
  have hc : w.cell? ⟨g, j, none⟩ = some cells[j] := by rw [hcell]; simp [hlen, hj]
  have hf : w.frozen? ⟨g, j, none⟩ = false := by
    rcases hO.2 with ⟨h', _⟩ | ⟨g', cap', cur, h', _, hg', _⟩
    · simp at h'
    · simp only [Value.slice.injEq, Option.some.injEq, Addr.mk.injEq] at h'
      simp only [World.frozen?]
      rw [h'.1.1, hg']
      simp
  have hstore : (store (⟨g, j, none⟩ : Addr) v).run P w = .ok () (w.setCell ⟨g, j, none⟩ v) := by
    unfold store
    cases v <;> first | (simp [Value.oneCell'] at h1; done) | simp [Sem.run, hc, hf]
  have e' : (sStore t (.pointer (some (⟨g, j, none⟩ : Addr))) v).run P w = .ok .skip (w.setCell ⟨g, j, none⟩ v) := by
    have hvs : v.cells.size = 1 := by rw [← Array.length_toList, hv]; rfl
    simp only [sStore, Instr.storeAt, Instr.sureAddr, storeVar, Sem.run_bind, Sem.run_pure, Result.andThen, run_size hs]
    rw [if_neg (by simp [hvs])]
    simp only [hv, storeCells, Sem.run_bind, add_zero', hstore, Result.andThen]
    rfl
  have ea : (ad (some (⟨g, 0, none⟩ : Addr))).add j = ⟨g, j, none⟩ := by
    show (⟨g, 0, none⟩ : Addr).add j = _
    rw [add_plain, Nat.zero_add]
  rw [ea, do_skip e']
  exact h _ hst.2 (by simp [World.setCell]) hst.1
abbrev Inf (P : Program) (e : TypeId) (z : Value) (sz by' : Nat) : Prop := ∃ i, P.info? e = some i ∧ i.zero = some z ∧ i.size = sz ∧ i.bytes = by'
theorem do_append_of {t e u sz by' : Nat} {z : Value} (ht : P.underlying t = some (.slice e)) (H : Inf P e z sz by') (hzs : z.cells.size = sz) (hsz : 0 < sz)
    {cs : List Bool} {B n c m d : Nat} {X Y : Option Addr} {cells news : List Value} (hO : Row w B e sz X n c cells) (hS : Src w Y news) (hl : news.length = m * sz) (h1 : ∀ v ∈ news, v.oneCell' = true) (hm : (n + m) * by' ≤ 140737488355328) (hmax : n + m ≤ 9223372036854775807) (hB : B ≤ w.heap.size)
    (h : ∀ X' c' w', Row w' B e sz X' (n + m) c' (cells ++ news) → w.grownBy w' (blk X) → k (.slice X' (n + m) c') w') : Do P (sBuiltin .append #[t, t] u cs [.slice X n c, .slice Y m d]) k w := by
  obtain ⟨i, a, b, e', f⟩ := H
  exact do_append ht a b e' f hzs hsz hO hS hl h1 hm hmax hB h
theorem do_make_of {t e sz by' : Nat} {z : Value} (ht : P.underlying t = some (.slice e)) (H : Inf P e z sz by') {kl kc : IntKind} {n : Nat} (hm : by' * n ≤ 281474976710656) (hmax : n ≤ 9223372036854775807)
    (h : ∀ b w', w.heap.size ≤ b → b < w'.heap.size → Gr w w' → (∀ B, B ≤ w.heap.size → Row w' B e sz (some ⟨b, 0, none⟩) n n (madeCells z.cells (n * sz)).toList) → k (.slice (some ⟨b, 0, none⟩) n n) w') : Do P (sMakeSlice t (.int kl n) (.int kc n)) k w := by
  obtain ⟨i, a, b, e', f⟩ := H
  exact do_make ht a b e' f hm hmax h
theorem do_build_of {t e sz by' n : Nat} {z : Value} (ht : P.underlying t = some (.slice e)) (H : Inf P e z sz by') {ps : List (Nat × Value)} {cells : List Value} (hn : n * sz ≤ 16777216) (hn' : n ≤ 9223372036854775807)
    (hf : Instr.fill (fun j => some (j * sz, sz)) (madeCells (if n * sz = 0 then #[] else z.cells) (n * sz)) ps = some cells.toArray) (hl : cells.length = n * sz)
    (h : ∀ b w', w.heap.size ≤ b → b < w'.heap.size → Gr w w' → Box w' b cells e → (∀ B, B ≤ w.heap.size → Row w' B e sz (some ⟨b, 0, none⟩) n n cells) → k (.slice (some ⟨b, 0, none⟩) n n) w') : Do P (sBuildSlice t n ps) k w := by
  obtain ⟨i, a, b, e', f⟩ := H
  exact do_build ht a b e' hn hn' hf hl h
end
end Go.Sh
