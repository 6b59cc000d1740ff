/- Local state as a list of owned things that lie apart: what each operation does to it. -/
import Derived.Test.YtiohaeckagjebaaShH7
set_option linter.unusedVariables false
set_option linter.unusedSimpArgs false
set_option maxRecDepth 100000
namespace Go.Sh
open Go
/-- What is owned: a fact of the world, and the blocks that it lies in. -/
structure Thing where
  P : World → Prop
  ft : Nat → Prop
structure Thing.Ok (it : Thing) (w0 w : World) : Prop where
  lo : ∀ q, it.ft q → w0.heap.size ≤ q
  hi : ∀ q, it.ft q → q < w.heap.size
  kept : ∀ w', (∀ q, it.ft q → w'.heap[q]? = w.heap[q]?) → it.P w'
theorem Thing.Ok.step {it : Thing} {w0 w w' : World} (h : it.Ok w0 w) (hs : w.heap.size ≤ w'.heap.size) (hb : ∀ q, it.ft q → w'.heap[q]? = w.heap[q]?) : it.Ok w0 w' :=
  ⟨h.lo, fun q hq => Nat.lt_of_lt_of_le (h.hi q hq) hs, fun w'' h'' => h.kept w'' fun q hq => (h'' q hq).trans (hb q hq)⟩
/-- Things that lie apart, all of them younger than w0; nothing else has changed since w0. -/
structure Apt (w0 w : World) (L : List Thing) : Prop where
  gr : Gr w0 w
  ok : ∀ (i : Nat) (it : Thing), L[i]? = some it → it.Ok w0 w
  two : ∀ (i j : Nat) (a b : Thing), i ≠ j → L[i]? = some a → L[j]? = some b → ∀ q, a.ft q → ¬ b.ft q
theorem get_snoc {L : List Thing} {x a : Thing} {i : Nat} (h : (L ++ [x])[i]? = some a) : L[i]? = some a ∨ (i = L.length ∧ a = x) := by
  by_cases hi : i < L.length
  · rw [List.getElem?_append_left hi] at h
    exact .inl h
  · rw [List.getElem?_append_right (by omega)] at h
    have : i - L.length = 0 := by
      have := (List.getElem?_eq_some_iff.1 h).1
      simpa using this
    rw [this] at h
    refine .inr ⟨by omega, ?_⟩
    simpa using h.symm
theorem get_lt {L : List Thing} {a : Thing} {i : Nat} (h : L[i]? = some a) : i < L.length := (List.getElem?_eq_some_iff.1 h).1
theorem get_set {L : List Thing} {x a : Thing} {i j : Nat} (h : (L.set i x)[j]? = some a) : (j = i ∧ a = x) ∨ (j ≠ i ∧ L[j]? = some a) := by
  rw [List.getElem?_set] at h
  by_cases hij : i = j
  · rw [if_pos hij] at h
    split at h
    · exact .inl ⟨hij.symm, by simpa using h.symm⟩
    · cases h
  · rw [if_neg hij] at h
    exact .inr ⟨fun e => hij e.symm, h⟩
theorem Apt.nil (w : World) : Apt w w [] := ⟨Gr.refl w, fun i it h => by simp at h, fun i j a b _ h => by simp at h⟩
theorem Apt.step {w0 w w' : World} {L : List Thing} (H : Apt w0 w L) (g : Gr w w') : Apt w0 w' L :=
  ⟨gr_trans H.gr g, fun i it hi => (H.ok i it hi).step g.size fun q hq => g.block q ((H.ok i it hi).hi q hq) (by simp), H.two⟩
theorem Apt.drew {w0 w : World} {L : List Thing} (H : Apt w0 w L) : Apt w0 w.drew L := H.step (gr_drew w)
theorem Apt.get {w0 w : World} {L : List Thing} (H : Apt w0 w L) (i : Nat) {it : Thing} (hi : L[i]? = some it) : it.P w := (H.ok i it hi).kept w fun _ _ => rfl
theorem Apt.add {w0 w w' : World} {L : List Thing} (H : Apt w0 w L) (g : Gr w w') (it : Thing) (lo : ∀ q, it.ft q → w.heap.size ≤ q) (hi : ∀ q, it.ft q → q < w'.heap.size) (kept : ∀ w'', (∀ q, it.ft q → w''.heap[q]? = w'.heap[q]?) → it.P w'') : Apt w0 w' (L ++ [it]) := by
  have H' := H.step g
  refine ⟨H'.gr, fun i a ha => ?_, fun i j a b hij ha hb q hq hq' => ?_⟩
  · rcases get_snoc ha with h | ⟨_, rfl⟩
    · exact H'.ok i a h
    · exact ⟨fun q hq => Nat.le_trans H.gr.size (lo q hq), hi, kept⟩
  · rcases get_snoc ha with h | ⟨e, rfl⟩ <;> rcases get_snoc hb with h' | ⟨e', rfl⟩
    · exact H.two i j a b hij h h' q hq hq'
    · have := (H.ok i a h).hi q hq
      have := lo q hq'
      omega
    · have := (H.ok j b h').hi q hq'
      have := lo q hq
      omega
    · exact hij (e.trans e'.symm)
theorem Apt.set {w0 w w' : World} {L : List Thing} (H : Apt w0 w L) {i : Nat} {it it' : Thing} (hi : L[i]? = some it) (g : Gx it.ft w w') (lo : ∀ q, it'.ft q → it.ft q ∨ w.heap.size ≤ q) (hh : ∀ q, it'.ft q → q < w'.heap.size) (kept : ∀ w'', (∀ q, it'.ft q → w''.heap[q]? = w'.heap[q]?) → it'.P w'') : Apt w0 w' (L.set i it') := by
  have hit := H.ok i it hi
  have hsz := H.gr.size
  refine ⟨Gx.gr_after H.gr g fun q hq => hit.lo q hq, fun j a ha => ?_, fun j l a b hjl ha hb q hq hq' => ?_⟩
  · rcases get_set ha with ⟨rfl, rfl⟩ | ⟨hj, h⟩
    · refine ⟨fun q hq => ?_, hh, kept⟩
      rcases lo q hq with h | h
      · exact hit.lo q h
      · omega
    · have := H.ok j a h
      exact this.step g.size fun q hq => g.block q (this.hi q hq) fun hq' => H.two j i a it hj h hi q hq hq'
  · rcases get_set ha with ⟨rfl, rfl⟩ | ⟨hj, h⟩ <;> rcases get_set hb with ⟨rfl, rfl⟩ | ⟨hl, h'⟩
    · exact hjl rfl
    · rcases lo q hq with h2 | h2
      · exact H.two _ _ _ _ (fun e => hl e.symm) hi h' q h2 hq'
      · have := (H.ok l b h').hi q hq'
        omega
    · rcases lo q hq' with h2 | h2
      · exact H.two _ _ _ _ hj h hi q hq h2
      · have := (H.ok j a h).hi q hq
        omega
    · exact H.two j l a b hjl h h' q hq hq'
theorem Apt.cast {w0 w : World} {L L' : List Thing} (H : Apt w0 w L) (e : L = L') : Apt w0 w L' := e ▸ H
/-- Some of the things alone, in another order. -/
theorem Apt.pick {w0 w : World} {L L' : List Thing} (H : Apt w0 w L) (m : Nat → Nat) (h : ∀ i a, L'[i]? = some a → L[m i]? = some a) (hm : ∀ i j, i < L'.length → j < L'.length → m i = m j → i = j) : Apt w0 w L' :=
  ⟨H.gr, fun i a ha => H.ok _ a (h i a ha), fun i j a b hij ha hb => H.two _ _ a b (fun e => hij (hm i j (get_lt ha) (get_lt hb) e)) (h i a ha) (h j b hb)⟩
theorem Apt.take {w0 w : World} {L : List Thing} (H : Apt w0 w L) (n : Nat) : Apt w0 w (L.take n) := by
  have h : ∀ (i : Nat) (a : Thing), (L.take n)[i]? = some a → L[i]? = some a := fun i a ha => by
    rw [List.getElem?_take] at ha
    split at ha
    · exact ha
    · cases ha
  exact ⟨H.gr, fun i a ha => H.ok i a (h i a ha), fun i j a b hij ha hb => H.two i j a b hij (h i a ha) (h j b hb)⟩

/-- Things of a later stretch beside those of an earlier one. -/
theorem Apt.append {w0 w1 w2 : World} {L M : List Thing} (H : Apt w0 w1 L) (G : Apt w1 w2 M) : Apt w0 w2 (L ++ M) := by
  have H' := H.step G.gr
  have get : ∀ (i : Nat) (a : Thing), (L ++ M)[i]? = some a → (i < L.length ∧ L[i]? = some a) ∨ (L.length ≤ i ∧ M[i - L.length]? = some a) := fun i a ha => by
    by_cases h : i < L.length
    · rw [List.getElem?_append_left h] at ha
      exact .inl ⟨h, ha⟩
    · rw [List.getElem?_append_right (by omega)] at ha
      exact .inr ⟨by omega, ha⟩
  refine ⟨H'.gr, fun i a ha => ?_, fun i j a b hij ha hb q hq hq' => ?_⟩
  · rcases get i a ha with ⟨_, h⟩ | ⟨_, h⟩
    · exact H'.ok i a h
    · have := G.ok _ a h
      exact ⟨fun q hq => Nat.le_trans H.gr.size (this.lo q hq), this.hi, this.kept⟩
  · rcases get i a ha with ⟨h1, h⟩ | ⟨h1, h⟩ <;> rcases get j b hb with ⟨h2, h'⟩ | ⟨h2, h'⟩
    · exact H.two i j a b hij h h' q hq hq'
    · have := (H.ok i a h).hi q hq
      have := (G.ok _ b h').lo q hq'
      omega
    · have := (H.ok j b h').hi q hq'
      have := (G.ok _ a h).lo q hq
      omega
    · exact G.two _ _ a b (by omega) h h' q hq hq'
theorem Apt.swap {w0 w : World} {a b : Thing} (H : Apt w0 w [a, b]) : Apt w0 w [b, a] :=
  H.pick (fun i => 1 - i) (fun i x hx => by
    match i, hx with
    | 0, hx => exact hx
    | 1, hx => exact hx
    | i + 2, hx => simp at hx) (fun i j hi hj e => by simp at hi hj; omega)
/-- A join: what holds at each way out. -/
theorem join_as {b : (F → World → Prop) → Prop} {n : F → World → Prop} (C : F → World → Prop) (hb : ∀ K, (∀ f w, C f w → K f w) → b K) (hn : ∀ f w, C f w → n f w) : Join b n := hb n hn
/-! ### Things -/
theorem Row.same {w w' : World} {B e sz n c : Nat} {X : Option Addr} {cells : List Value} (h : Row w B e sz X n c cells) (hs : ∀ q, blk X = some q → w'.heap[q]? = w.heap[q]?) : Row w' B e sz X n c cells := by
  obtain ⟨hl, h2⟩ := h
  refine ⟨hl, ?_⟩
  rcases h2 with h2 | ⟨q, cap, cur, e1, e2, e3, e4⟩
  · exact .inl h2
  · refine .inr ⟨q, cap, cur, e1, e2, ?_, e4⟩
    obtain ⟨rfl, _, _⟩ : X = some ⟨q, 0, none⟩ ∧ n = n ∧ c = cap := by simpa using e1
    rw [hs q rfl]
    exact e3
theorem Row.up {w : World} {B B' e sz n c : Nat} {X : Option Addr} {cells : List Value} (h : Row w B e sz X n c cells) (hb : ∀ q, blk X = some q → B' ≤ q) : Row w B' e sz X n c cells := by
  obtain ⟨hl, h2⟩ := h
  refine ⟨hl, ?_⟩
  rcases h2 with h2 | ⟨q, cap, cur, e1, e2, e3⟩
  · exact .inl h2
  · obtain ⟨rfl, _, _⟩ : X = some ⟨q, 0, none⟩ ∧ n = n ∧ c = cap := by simpa using e1
    exact .inr ⟨q, cap, cur, e1, hb q rfl, e3⟩
theorem OwnR.same {e1 e2 : Nat} {w w' : World} {B : Nat} {X : Option Addr} {c : Nat} {rs : List RuleL} {ps : Nat → Option Addr × Nat} (h : OwnR e1 e2 w B X c rs ps) (hs : ∀ q, Foot X ps rs.length q → w'.heap[q]? = w.heap[q]?) : OwnR e1 e2 w' B X c rs ps := by
  obtain ⟨⟨cells, hr, hc⟩, ho, ht⟩ := h
  exact ⟨⟨cells, hr.same fun q hq => hs q (.inl hq), hc⟩, fun j hj => Row.same (ho j hj) fun q hq => hs q (.inr ⟨j, hj, hq⟩), ht⟩
theorem OwnR.up {e1 e2 : Nat} {w : World} {B B' : Nat} {X : Option Addr} {c : Nat} {rs : List RuleL} {ps : Nat → Option Addr × Nat} (h : OwnR e1 e2 w B X c rs ps) (hs : ∀ q, Foot X ps rs.length q → B' ≤ q) : OwnR e1 e2 w B' X c rs ps := by
  obtain ⟨⟨cells, hr, hc⟩, ho, ht⟩ := h
  exact ⟨⟨cells, hr.up fun q hq => hs q (.inl hq), hc⟩, fun j hj => Row.up (ho j hj) fun q hq => hs q (.inr ⟨j, hj, hq⟩), ht⟩
def bx (b : Nat) (cs : List Value) (t : TypeId) : Thing := ⟨fun w => Box w b cs t, fun q => q = b⟩
def rwi (e sz : Nat) (X : Option Addr) (n c : Nat) (cells : List Value) : Thing := ⟨fun w => Row w 0 e sz X n c cells, fun q => blk X = some q⟩
def rls (e1 e2 : Nat) (X : Option Addr) (c : Nat) (rs : List RuleL) (ps : Nat → Option Addr × Nat) : Thing := ⟨fun w => OwnR e1 e2 w 0 X c rs ps, Foot X ps rs.length⟩
theorem bx_kept {w : World} {b t : Nat} {cs : List Value} (h : Box w b cs t) : ∀ w', (∀ q, (bx b cs t).ft q → w'.heap[q]? = w.heap[q]?) → (bx b cs t).P w' := fun w' hq => (hq b rfl).trans h
theorem rwi_kept {w : World} {B e sz n c : Nat} {X : Option Addr} {cells : List Value} (h : Row w B e sz X n c cells) : ∀ w', (∀ q, (rwi e sz X n c cells).ft q → w'.heap[q]? = w.heap[q]?) → (rwi e sz X n c cells).P w' := fun w' hq => (Row.mono h (Nat.zero_le B)).same hq
theorem rls_kept {w : World} {B e1 e2 c : Nat} {X : Option Addr} {rs : List RuleL} {ps : Nat → Option Addr × Nat} (h : OwnR e1 e2 w B X c rs ps) : ∀ w', (∀ q, (rls e1 e2 X c rs ps).ft q → w'.heap[q]? = w.heap[q]?) → (rls e1 e2 X c rs ps).P w' := fun w' hq => (h.mono (Nat.zero_le B)).same hq
section
variable {w0 w w' : World} {L : List Thing}
theorem Apt.box (H : Apt w0 w L) (i : Nat) {b t : Nat} {cs : List Value} (hi : L[i]? = some (bx b cs t)) : Box w b cs t := H.get i hi
theorem Apt.row (H : Apt w0 w L) (i : Nat) {e sz n c : Nat} {X : Option Addr} {cells : List Value} (hi : L[i]? = some (rwi e sz X n c cells)) : Row w w0.heap.size e sz X n c cells := Row.up (H.get i hi) (H.ok i _ hi).lo
theorem Apt.rules (H : Apt w0 w L) (i : Nat) {e1 e2 c : Nat} {X : Option Addr} {rs : List RuleL} {ps : Nat → Option Addr × Nat} (hi : L[i]? = some (rls e1 e2 X c rs ps)) : OwnR e1 e2 w w0.heap.size X c rs ps := OwnR.up (H.get i hi) (H.ok i _ hi).lo
theorem Apt.addBox (H : Apt w0 w L) (g : Gr w w') {b t : Nat} {cs : List Value} (hb : w.heap.size ≤ b) (h : Box w' b cs t) : Apt w0 w' (L ++ [bx b cs t]) := H.add g _ (fun q hq => (show q = b from hq) ▸ hb) (fun q hq => (show q = b from hq) ▸ h.lt) (bx_kept h)
theorem Apt.addRow (H : Apt w0 w L) (g : Gr w w') {e sz n c : Nat} {X : Option Addr} {cells : List Value} (h : Row w' w.heap.size e sz X n c cells) : Apt w0 w' (L ++ [rwi e sz X n c cells]) := H.add g _ (fun q hq => (Row.ge h hq).1) (fun q hq => (Row.ge h hq).2) (rwi_kept h)
theorem Apt.addRules (H : Apt w0 w L) (g : Gr w w') {e1 e2 c : Nat} {X : Option Addr} {rs : List RuleL} {ps : Nat → Option Addr × Nat} (h : OwnR e1 e2 w' w.heap.size X c rs ps) : Apt w0 w' (L ++ [rls e1 e2 X c rs ps]) := H.add g _ (fun q hq => (h.foot hq).1) (fun q hq => (h.foot hq).2) (rls_kept h)
theorem Apt.addNil (H : Apt w0 w L) (e sz : Nat) : Apt w0 w (L ++ [rwi e sz none 0 0 []]) := H.addRow (Gr.refl w) (Row.nil _ _ _ _)
end
/-! ### Loops -/
/-- A loop over a state of the prover's own that counts down. -/
theorem loop_ghost {σ : Type} {W : List Nat} {body : (Exit → F → World → Prop) → F → World → Prop} {Q : Exit → F → World → Prop} {f0 : F} {w0 : World} (J : σ → F → World → Prop) (m : σ → Nat) (s0 : σ) (h0 : J s0 f0 w0)
    (h : ∀ s f w (N : F → World → Prop), Agree W f0 f → J s f w → (∀ s' f' w', J s' f' w' → m s' < m s → N f' w') → body (seqQ N Q) f w) : LoopF W body Q f0 w0 := by
  classical
  have hm : ∃ μ : F → World → Nat, (∀ f w s, J s f w → μ f w ≤ m s) ∧ ∀ f w, (∃ s, J s f w) → ∃ s, J s f w ∧ m s = μ f w := by
    have key : ∀ f w, ∃ n, (∀ s, J s f w → n ≤ m s) ∧ ((∃ s, J s f w) → ∃ s, J s f w ∧ m s = n) := fun f w => by
      by_cases hx : ∃ s, J s f w
      · have : ∃ n, ∃ s, J s f w ∧ m s = n := by
          obtain ⟨s, hs⟩ := hx
          exact ⟨_, s, hs, rfl⟩
        have ind : ∀ n, (∃ s, J s f w ∧ m s = n) → ∃ n, (∀ s, J s f w → n ≤ m s) ∧ ∃ s, J s f w ∧ m s = n := by
          intro n
          induction n using Nat.strongRecOn with
          | _ n ih =>
            intro hn
            by_cases hlt : ∃ s, J s f w ∧ m s < n
            · obtain ⟨s, hs, hl⟩ := hlt
              exact ih _ hl ⟨s, hs, rfl⟩
            · exact ⟨n, fun s hs => Classical.byContradiction fun hc => hlt ⟨s, hs, by omega⟩, hn⟩
        obtain ⟨n, hn⟩ := this
        obtain ⟨n', h1, h2⟩ := ind n hn
        exact ⟨n', h1, fun _ => h2⟩
      · exact ⟨0, fun s hs => absurd ⟨s, hs⟩ hx, fun e => absurd e hx⟩
    exact ⟨fun f w => Classical.choose (key f w), fun f w s hs => (Classical.choose_spec (key f w)).1 s hs, fun f w hx => (Classical.choose_spec (key f w)).2 hx⟩
  obtain ⟨μ, hμ1, hμ2⟩ := hm
  refine ⟨fun f w => ∃ s, J s f w, μ, ⟨s0, h0⟩, fun f w hag hx => ?_⟩
  obtain ⟨s, hs, hms⟩ := hμ2 f w hx
  refine h s f w _ hag hs fun s' f' w' hs' hlt => ⟨⟨s', hs'⟩, ?_⟩
  have := hμ1 f' w' s' hs'
  omega
/-- A loop that counts up to n. -/
theorem loop_to {W : List Nat} {body : (Exit → F → World → Prop) → F → World → Prop} {Q : Exit → F → World → Prop} {f0 : F} {w0 : World} (n a : Nat) (J : Nat → F → World → Prop) (h0 : J a f0 w0)
    (h : ∀ i f w (N : F → World → Prop), Agree W f0 f → J i f w → (∀ f' w', i < n → J (i + 1) f' w' → N f' w') → body (seqQ N Q) f w) : LoopF W body Q f0 w0 :=
  loop_ghost J (fun i => n - i) a h0 fun i f w N hag hJ hN => by
    by_cases hlt : i < n
    · exact h i f w N hag hJ fun f' w' _ hJ' => hN (i + 1) f' w' hJ' (by omega)
    · exact h i f w N hag hJ fun f' w' hlt' _ => absurd hlt' hlt
theorem rng6 : Array.range 6 = #[0, 1, 2, 3, 4, 5] := by decide
theorem rdi {A B : Prop} (e : A = B) (h : B) : A := e ▸ h
theorem all_one {vs : List Value} (h : vs.all Value.oneCell' = true) : ∀ v ∈ vs, v.oneCell' = true := fun v hv => List.all_eq_true.1 h v hv
section
variable {P : Program} {k : Value → World → Prop} {w0 w : World} {L : List Thing}
theorem boxH (H : Apt w0 w L) {t : TypeId} {v : Value} (h : ∀ b w', Apt w0 w' (L ++ [bx b v.cells.toList t]) → k (.pointer (some ⟨b, 0, none⟩)) w') : Do P (sBox t v) k w :=
  do_box fun b w' g hb hB => h b w' (H.addBox g hb hB)
theorem allocH (H : Apt w0 w L) {t sz by' : Nat} {z : Value} (I : Inf P t z sz by') (h : ∀ b w', Apt w0 w' (L ++ [bx b z.cells.toList t]) → k (.pointer (some ⟨b, 0, none⟩)) w') : Do P (sAlloc t) k w :=
  do_alloc_of I fun b w' g hb hB => h b w' (H.addBox g hb hB)
theorem storeH (H : Apt w0 w L) (i : Nat) {b e : Nat} {cs : List Value} (hi : L[i]? = some (bx b cs e)) {t n off : Nat} {v : Value} (hs : szOf P t n) (hv : v.cells.size = n) (h1 : v.cells.toList.all Value.oneCell' = true) (hl : Nat.ble (off + n) cs.length = true)
    (h : ∀ w', Apt w0 w' (L.set i (bx b (cs.take off ++ v.cells.toList ++ cs.drop (off + n)) e)) → k undef w') : Do P (sStore t (.pointer (some ⟨b, off, none⟩)) v) k w :=
  do_store hs hv (all_one h1) (H.box i hi) (Nat.le_of_ble_eq_true hl) fun w' g hsz hb => h w' (H.set hi (gx_of g fun q hq => by cases hq; rfl) (fun q hq => .inl hq) (fun q hq => (show q = b from hq) ▸ hb.lt) (bx_kept hb))
theorem appendH (H : Apt w0 w L) (i : Nat) {t e u sz by' n c m d : Nat} {X Y : Option Addr} {cells news : List Value} {z : Value} (hi : L[i]? = some (rwi e sz X n c cells)) (ht : P.underlying t = some (.slice e)) (I : Inf P e z sz by') (hzs : z.cells.size = sz) (hsz : 0 < sz)
    {cs : List Bool} (hS : Src w Y news) (hl : news.length = m * sz) (h1 : ∀ v ∈ news, v.oneCell' = true) (hm : (n + m) * by' ≤ 140737488355328) (hmax : n + m ≤ 9223372036854775807)
    (h : ∀ X' c' w', Apt w0 w' (L.set i (rwi e sz X' (n + m) c' (cells ++ news))) → k (.slice X' (n + m) c') w') : Do P (sBuiltin .append #[t, t] u cs [.slice X n c, .slice Y m d]) k w :=
  do_append2 ht I hzs hsz (H.row i hi) hS hl h1 hm hmax H.gr.size fun X' c' w' hr hg hmv => h X' c' w' (H.set hi (gx_of hg fun q hq => hq) (fun q hq => by
    rcases hmv with e | e
    · exact .inl (show blk X = some q from e ▸ (show blk X' = some q from hq))
    · exact .inr (e q hq)) (fun q hq => (Row.ge hr hq).2) (rwi_kept hr))
theorem makeH (H : Apt w0 w L) {t e sz by' : Nat} {z : Value} (ht : P.underlying t = some (.slice e)) (I : Inf P e z sz by') {kl kc : IntKind} {n : Nat} (hm : by' * n ≤ 281474976710656) (hmax : n ≤ 9223372036854775807)
    (h : ∀ b w', Apt w0 w' (L ++ [rwi e sz (some ⟨b, 0, none⟩) n n (madeCells z.cells (n * sz)).toList]) → k (.slice (some ⟨b, 0, none⟩) n n) w') : Do P (sMakeSlice t (.int kl n) (.int kc n)) k w :=
  do_make_of ht I hm hmax fun b w' hb hb' g hr => h b w' (H.addRow g (hr _ (Nat.le_refl _)))
theorem buildH (H : Apt w0 w L) {t e sz by' n : Nat} {z : Value} (ht : P.underlying t = some (.slice e)) (I : Inf P e z sz by') {ps : List (Nat × Value)} (cells : List Value) (hn : n * sz ≤ 16777216) (hn' : n ≤ 9223372036854775807)
    (hf : Instr.fill (fun j => some (j * sz, sz)) (madeCells (if n * sz = 0 then #[] else z.cells) (n * sz)) ps = some cells.toArray) (hl : cells.length = n * sz)
    (h : ∀ b w', Apt w0 w' (L ++ [rwi e sz (some ⟨b, 0, none⟩) n n cells]) → k (.slice (some ⟨b, 0, none⟩) n n) w') : Do P (sBuildSlice t n ps) k w :=
  do_build_of ht I hn hn' hf hl fun b w' hb hb' g hB hr => h b w' (H.addRow g (hr _ (Nat.le_refl _)))
end
section
variable {P : Program} {k : Value → Prop}
theorem rdG {w : World} {h : Gr w w} {t off b e : Nat} {cs : List Value} {v : Value} (ht : one P t) (hb : Box w b cs e) (hc : cs[off]? = some v) : Rd P ⟨fun w' => Gr w w', w, h⟩ (sLoad t (.pointer (some ⟨b, off, none⟩))) k = k v :=
  rd_load1 ht fun w' hw => ((hb.gr hw).cell off).trans hc
theorem rdG_agg {w : World} {h : Gr w w} {t b e n : Nat} {cs : List Value} (ht : agg P t) (hs : szOf P t n) (hn : cs.length = n) (hb : Box w b cs e) : Rd P ⟨fun w' => Gr w w', w, h⟩ (sLoad t (.pointer (some ⟨b, 0, none⟩))) k = k (.agg cs.toArray) :=
  rd_loadAgg ht hs hn fun w' hw j hj => by
    rw [add_plain, Nat.zero_add, (hb.gr hw).cell]
    exact List.getElem?_eq_getElem hj
end
theorem rls_gramV {e1 e2 : Nat} {w : World} {B c : Nat} {X : Option Addr} {ps : Nat → Option Addr × Nat} {gm : Gram} (h : OwnR e1 e2 w B X c gm.rules ps) : GramV (fun _ => True) w (.agg #[.int .i64 gm.nons, .int .i64 gm.toks, .slice X gm.rules.length c]) gm := by
  obtain ⟨cells, hr, _⟩ := h.cells
  exact ⟨X, c, rfl, (Row.cap hr).1, h.read.mono fun _ _ => trivial⟩
end Go.Sh
namespace Go.Proofs.Ytiohaeckagjebaa
open Go Go.Sh Go.RowKit
def ows (X : Option Addr) (c : Nat) (xs : List Int) : Thing := rwi 3 1 X xs.length c (ints xs)
theorem ows_ft {X : Option Addr} {c : Nat} {xs : List Int} {q : Nat} (h : (ows X c xs).ft q) : blk X = some q := h
section
variable {k : Value → World → Prop} {w0 w w' : World} {L : List Thing}
theorem _root_.Go.Sh.Apt.own (H : Apt w0 w L) (i : Nat) {c : Nat} {X : Option Addr} {xs : List Int} (hi : L[i]? = some (ows X c xs)) : Own 3 w w0.heap.size X c xs := H.row i hi
theorem _root_.Go.Sh.Apt.ints (H : Apt w0 w L) (i : Nat) {c : Nat} {X : Option Addr} {xs : List Int} (hi : L[i]? = some (ows X c xs)) : Ints w X xs := Own.ints (H.own i hi)
theorem _root_.Go.Sh.Apt.addOwn (H : Apt w0 w L) (g : Gr w w') {c : Nat} {X : Option Addr} {xs : List Int} (h : Own 3 w' w.heap.size X c xs) : Apt w0 w' (L ++ [ows X c xs]) := H.addRow g h
/-- append of numbers to numbers. -/
theorem apH (H : Apt w0 w L) (i : Nat) {u n c m d : Nat} {X Y : Option Addr} {xs ys : List Int} (hi : L[i]? = some (ows X c xs)) {cs : List Bool} (hY : Ints w Y ys) (hn : n = xs.length) (hm : m = ys.length) (hb : (xs.length + ys.length) * 8 ≤ 140737488355328)
    (h : ∀ X' c' w', Apt w0 w' (L.set i (ows X' c' (xs ++ ys))) → k (.slice X' (xs ++ ys).length c') w') : Do Try.prog (sBuiltin .append #[22, 22] u cs [.slice X n c, .slice Y m d]) k w := by
  subst hn
  subst hm
  refine appendH H i hi u22 inf3 rfl (by decide) hY.src (by rw [ints_length, Nat.mul_one]) (ints_one ys) hb (by omega) fun X' c' w' H' => ?_
  rw [← ints_append, ← List.length_append] at H'
  rw [← List.length_append]
  exact h X' c' w' H'
/-- append of one number. -/
theorem pushH {k : Value → Value → World → Prop} (H : Apt w0 w L) (i : Nat) {u n c : Nat} {X : Option Addr} {xs : List Int} {x : Int} (hi : L[i]? = some (ows X c xs)) {cs : List Bool} (hn : n = xs.length) (hb : xs.length ≤ 1000000000)
    (h : ∀ t X' c' w', Apt w0 w' (L.set i (ows X' c' (xs ++ [x]))) → k t (.slice X' (xs ++ [x]).length c') w') : Do Try.prog (sBuildSlice 22 1 [(0, .int .i64 x)]) (fun t w1 => Do Try.prog (sBuiltin .append #[22, 22] u cs [.slice X n c, t]) (k t) w1) w := by
  refine bs22 [.int .i64 x] (by decide) (by simp [Instr.fill, madeCells, Value.cells, rng1]) rfl fun b w1 hb1 hb2 g hB hr => ?_
  refine apH (H.step g) i hi (ys := [x]) (Own.ints (show Own 3 w1 w.heap.size (some ⟨b, 0, none⟩) 1 [x] from hr _ (Nat.le_refl _))) hn rfl (by simp; omega) fun X' c' w' H' => h _ X' c' w' H'
end
end Go.Proofs.Ytiohaeckagjebaa
