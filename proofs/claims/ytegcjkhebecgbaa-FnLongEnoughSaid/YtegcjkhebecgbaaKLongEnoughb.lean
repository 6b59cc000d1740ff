/- Texts of this repository put together: ShK, ShC1, ShC2, ShG5, ShG6, ShH1, ShH2, ShH3, ShH4, ShH5, ShK2, ShP2, ShK3, ShV, ShP1, Be, ShQ1, ShQ2, Bf, ShS1, ShQ3, ShQ4, ShQ5, ShQ6. -/
import Derived.Test.YtegcjkhebecgbaaKLongEnougha
import Derived.Test.YtegcjkhebecgbaaProg

/- Local state as a list of owned things that lie apart: what each operation does to it. -/
set_option linter.unusedVariables false
set_option linter.unusedSimpArgs false
set_option maxRecDepth 100000
namespace Go.Sh
open Go
/-- What is owned: a fact of the world, and the blocks that it lies in. -/
structure Thing where
  P : World → Prop
  ft : Nat → Prop
structure Thing.Ok (it : Thing) (w0 w : World) : Prop where
  lo : ∀ q, it.ft q → w0.heap.size ≤ q
  hi : ∀ q, it.ft q → q < w.heap.size
  kept : ∀ w', (∀ q, it.ft q → w'.heap[q]? = w.heap[q]?) → it.P w'
theorem Thing.Ok.step {it : Thing} {w0 w w' : World} (h : it.Ok w0 w) (hs : w.heap.size ≤ w'.heap.size) (hb : ∀ q, it.ft q → w'.heap[q]? = w.heap[q]?) : it.Ok w0 w' :=
  ⟨h.lo, fun q hq => Nat.lt_of_lt_of_le (h.hi q hq) hs, fun w'' h'' => h.kept w'' fun q hq => (h'' q hq).trans (hb q hq)⟩
/-- Things that lie apart, all of them younger than w0; nothing else has changed since w0. -/
structure Apt (w0 w : World) (L : List Thing) : Prop where
  gr : Gr w0 w
  ok : ∀ (i : Nat) (it : Thing), L[i]? = some it → it.Ok w0 w
  two : ∀ (i j : Nat) (a b : Thing), i ≠ j → L[i]? = some a → L[j]? = some b → ∀ q, a.ft q → ¬ b.ft q
theorem get_snoc {L : List Thing} {x a : Thing} {i : Nat} (h : (L ++ [x])[i]? = some a) : L[i]? = some a ∨ (i = L.length ∧ a = x) := by
  by_cases hi : i < L.length
  · rw [List.getElem?_append_left hi] at h
    exact .inl h
  · rw [List.getElem?_append_right (by omega)] at h
    have : i - L.length = 0 := by
      have := (List.getElem?_eq_some_iff.1 h).1
      simpa using this
    rw [this] at h
    refine .inr ⟨by omega, ?_⟩
    simpa using h.symm
theorem get_lt {L : List Thing} {a : Thing} {i : Nat} (h : L[i]? = some a) : i < L.length := (List.getElem?_eq_some_iff.1 h).1
theorem get_set {L : List Thing} {x a : Thing} {i j : Nat} (h : (L.set i x)[j]? = some a) : (j = i ∧ a = x) ∨ (j ≠ i ∧ L[j]? = some a) := by
  rw [List.getElem?_set] at h
  by_cases hij : i = j
  · rw [if_pos hij] at h
    split at h
    · exact .inl ⟨hij.symm, by simpa using h.symm⟩
    · cases h
  · rw [if_neg hij] at h
    exact .inr ⟨fun e => hij e.symm, h⟩
theorem Apt.nil (w : World) : Apt w w [] := ⟨Gr.refl w, fun i it h => by simp at h, fun i j a b _ h => by simp at h⟩
theorem Apt.step {w0 w w' : World} {L : List Thing} (H : Apt w0 w L) (g : Gr w w') : Apt w0 w' L :=
  ⟨gr_trans H.gr g, fun i it hi => (H.ok i it hi).step g.size fun q hq => g.block q ((H.ok i it hi).hi q hq) (by simp), H.two⟩
theorem Apt.drew {w0 w : World} {L : List Thing} (H : Apt w0 w L) : Apt w0 w.drew L := H.step (gr_drew w)
theorem Apt.get {w0 w : World} {L : List Thing} (H : Apt w0 w L) (i : Nat) {it : Thing} (hi : L[i]? = some it) : it.P w := (H.ok i it hi).kept w fun _ _ => rfl
theorem Apt.add {w0 w w' : World} {L : List Thing} (H : Apt w0 w L) (g : Gr w w') (it : Thing) (lo : ∀ q, it.ft q → w.heap.size ≤ q) (hi : ∀ q, it.ft q → q < w'.heap.size) (kept : ∀ w'', (∀ q, it.ft q → w''.heap[q]? = w'.heap[q]?) → it.P w'') : Apt w0 w' (L ++ [it]) := by
  have H' := H.step g
  refine ⟨H'.gr, fun i a ha => ?_, fun i j a b hij ha hb q hq hq' => ?_⟩
  · rcases get_snoc ha with h | ⟨_, rfl⟩
    · exact H'.ok i a h
    · exact ⟨fun q hq => Nat.le_trans H.gr.size (lo q hq), hi, kept⟩
  · rcases get_snoc ha with h | ⟨e, rfl⟩ <;> rcases get_snoc hb with h' | ⟨e', rfl⟩
    · exact H.two i j a b hij h h' q hq hq'
    · have := (H.ok i a h).hi q hq
      have := lo q hq'
      omega
    · have := (H.ok j b h').hi q hq'
      have := lo q hq
      omega
    · exact hij (e.trans e'.symm)
theorem Apt.set {w0 w w' : World} {L : List Thing} (H : Apt w0 w L) {i : Nat} {it it' : Thing} (hi : L[i]? = some it) (g : Gx it.ft w w') (lo : ∀ q, it'.ft q → it.ft q ∨ w.heap.size ≤ q) (hh : ∀ q, it'.ft q → q < w'.heap.size) (kept : ∀ w'', (∀ q, it'.ft q → w''.heap[q]? = w'.heap[q]?) → it'.P w'') : Apt w0 w' (L.set i it') := by
  have hit := H.ok i it hi
  have hsz := H.gr.size
  refine ⟨Gx.gr_after H.gr g fun q hq => hit.lo q hq, fun j a ha => ?_, fun j l a b hjl ha hb q hq hq' => ?_⟩
  · rcases get_set ha with ⟨rfl, rfl⟩ | ⟨hj, h⟩
    · refine ⟨fun q hq => ?_, hh, kept⟩
      rcases lo q hq with h | h
      · exact hit.lo q h
      · omega
    · have := H.ok j a h
      exact this.step g.size fun q hq => g.block q (this.hi q hq) fun hq' => H.two j i a it hj h hi q hq hq'
  · rcases get_set ha with ⟨rfl, rfl⟩ | ⟨hj, h⟩ <;> rcases get_set hb with ⟨rfl, rfl⟩ | ⟨hl, h'⟩
    · exact hjl rfl
    · rcases lo q hq with h2 | h2
      · exact H.two _ _ _ _ (fun e => hl e.symm) hi h' q h2 hq'
      · have := (H.ok l b h').hi q hq'
        omega
    · rcases lo q hq' with h2 | h2
      · exact H.two _ _ _ _ hj h hi q hq h2
      · have := (H.ok j a h).hi q hq
        omega
    · exact H.two j l a b hjl h h' q hq hq'
/-- Some of the things alone, in another order. -/
theorem Apt.pick {w0 w : World} {L L' : List Thing} (H : Apt w0 w L) (m : Nat → Nat) (h : ∀ i a, L'[i]? = some a → L[m i]? = some a) (hm : ∀ i j, i < L'.length → j < L'.length → m i = m j → i = j) : Apt w0 w L' :=
  ⟨H.gr, fun i a ha => H.ok _ a (h i a ha), fun i j a b hij ha hb => H.two _ _ a b (fun e => hij (hm i j (get_lt ha) (get_lt hb) e)) (h i a ha) (h j b hb)⟩
theorem Apt.take {w0 w : World} {L : List Thing} (H : Apt w0 w L) (n : Nat) : Apt w0 w (L.take n) := by
  have h : ∀ (i : Nat) (a : Thing), (L.take n)[i]? = some a → L[i]? = some a := fun i a ha => by
    rw [List.getElem?_take] at ha
    split at ha
    · exact ha
    · cases ha
  exact ⟨H.gr, fun i a ha => H.ok i a (h i a ha), fun i j a b hij ha hb => H.two i j a b hij (h i a ha) (h j b hb)⟩

/-- Things of a later stretch beside those of an earlier one. -/
theorem Apt.append {w0 w1 w2 : World} {L M : List Thing} (H : Apt w0 w1 L) (G : Apt w1 w2 M) : Apt w0 w2 (L ++ M) := by
  have H' := H.step G.gr
  have get : ∀ (i : Nat) (a : Thing), (L ++ M)[i]? = some a → (i < L.length ∧ L[i]? = some a) ∨ (L.length ≤ i ∧ M[i - L.length]? = some a) := fun i a ha => by
    by_cases h : i < L.length
    · rw [List.getElem?_append_left h] at ha
      exact .inl ⟨h, ha⟩
    · rw [List.getElem?_append_right (by omega)] at ha
      exact .inr ⟨by omega, ha⟩
  refine ⟨H'.gr, fun i a ha => ?_, fun i j a b hij ha hb q hq hq' => ?_⟩
  · rcases get i a ha with ⟨_, h⟩ | ⟨_, h⟩
    · exact H'.ok i a h
    · have := G.ok _ a h
      exact ⟨fun q hq => Nat.le_trans H.gr.size (this.lo q hq), this.hi, this.kept⟩
  · rcases get i a ha with ⟨h1, h⟩ | ⟨h1, h⟩ <;> rcases get j b hb with ⟨h2, h'⟩ | ⟨h2, h'⟩
    · exact H.two i j a b hij h h' q hq hq'
    · have := (H.ok i a h).hi q hq
      have := (G.ok _ b h').lo q hq'
      omega
    · have := (H.ok j b h').hi q hq'
      have := (G.ok _ a h).lo q hq
      omega
    · exact G.two _ _ a b (by omega) h h' q hq hq'
theorem Apt.swap {w0 w : World} {a b : Thing} (H : Apt w0 w [a, b]) : Apt w0 w [b, a] :=
  H.pick (fun i => 1 - i) (fun i x hx => by
    match i, hx with
    | 0, hx => exact hx
    | 1, hx => exact hx
    | i + 2, hx => simp at hx) (fun i j hi hj e => by simp at hi hj; omega)
/-- A join: what holds at each way out. -/
theorem join_as {b : (F → World → Prop) → Prop} {n : F → World → Prop} (C : F → World → Prop) (hb : ∀ K, (∀ f w, C f w → K f w) → b K) (hn : ∀ f w, C f w → n f w) : Join b n := hb n hn
/-! ### Things -/
theorem Row.same {w w' : World} {B e sz n c : Nat} {X : Option Addr} {cells : List Value} (h : Row w B e sz X n c cells) (hs : ∀ q, blk X = some q → w'.heap[q]? = w.heap[q]?) : Row w' B e sz X n c cells := by
  obtain ⟨hl, h2⟩ := h
  refine ⟨hl, ?_⟩
  rcases h2 with h2 | ⟨q, cap, cur, e1, e2, e3, e4⟩
  · exact .inl h2
  · refine .inr ⟨q, cap, cur, e1, e2, ?_, e4⟩
    obtain ⟨rfl, _, _⟩ : X = some ⟨q, 0, none⟩ ∧ n = n ∧ c = cap := by simpa using e1
    rw [hs q rfl]
    exact e3
theorem Row.up {w : World} {B B' e sz n c : Nat} {X : Option Addr} {cells : List Value} (h : Row w B e sz X n c cells) (hb : ∀ q, blk X = some q → B' ≤ q) : Row w B' e sz X n c cells := by
  obtain ⟨hl, h2⟩ := h
  refine ⟨hl, ?_⟩
  rcases h2 with h2 | ⟨q, cap, cur, e1, e2, e3⟩
  · exact .inl h2
  · obtain ⟨rfl, _, _⟩ : X = some ⟨q, 0, none⟩ ∧ n = n ∧ c = cap := by simpa using e1
    exact .inr ⟨q, cap, cur, e1, hb q rfl, e3⟩
theorem OwnR.same {e1 e2 : Nat} {w w' : World} {B : Nat} {X : Option Addr} {c : Nat} {rs : List RuleL} {ps : Nat → Option Addr × Nat} (h : OwnR e1 e2 w B X c rs ps) (hs : ∀ q, Foot X ps rs.length q → w'.heap[q]? = w.heap[q]?) : OwnR e1 e2 w' B X c rs ps := by
  obtain ⟨⟨cells, hr, hc⟩, ho, ht⟩ := h
  exact ⟨⟨cells, hr.same fun q hq => hs q (.inl hq), hc⟩, fun j hj => Row.same (ho j hj) fun q hq => hs q (.inr ⟨j, hj, hq⟩), ht⟩
theorem OwnR.up {e1 e2 : Nat} {w : World} {B B' : Nat} {X : Option Addr} {c : Nat} {rs : List RuleL} {ps : Nat → Option Addr × Nat} (h : OwnR e1 e2 w B X c rs ps) (hs : ∀ q, Foot X ps rs.length q → B' ≤ q) : OwnR e1 e2 w B' X c rs ps := by
  obtain ⟨⟨cells, hr, hc⟩, ho, ht⟩ := h
  exact ⟨⟨cells, hr.up fun q hq => hs q (.inl hq), hc⟩, fun j hj => Row.up (ho j hj) fun q hq => hs q (.inr ⟨j, hj, hq⟩), ht⟩
def bx (b : Nat) (cs : List Value) (t : TypeId) : Thing := ⟨fun w => Box w b cs t, fun q => q = b⟩
def rwi (e sz : Nat) (X : Option Addr) (n c : Nat) (cells : List Value) : Thing := ⟨fun w => Row w 0 e sz X n c cells, fun q => blk X = some q⟩
def rls (e1 e2 : Nat) (X : Option Addr) (c : Nat) (rs : List RuleL) (ps : Nat → Option Addr × Nat) : Thing := ⟨fun w => OwnR e1 e2 w 0 X c rs ps, Foot X ps rs.length⟩
theorem bx_kept {w : World} {b t : Nat} {cs : List Value} (h : Box w b cs t) : ∀ w', (∀ q, (bx b cs t).ft q → w'.heap[q]? = w.heap[q]?) → (bx b cs t).P w' := fun w' hq => (hq b rfl).trans h
theorem rwi_kept {w : World} {B e sz n c : Nat} {X : Option Addr} {cells : List Value} (h : Row w B e sz X n c cells) : ∀ w', (∀ q, (rwi e sz X n c cells).ft q → w'.heap[q]? = w.heap[q]?) → (rwi e sz X n c cells).P w' := fun w' hq => (Row.mono h (Nat.zero_le B)).same hq
section
variable {w0 w w' : World} {L : List Thing}
theorem Apt.box (H : Apt w0 w L) (i : Nat) {b t : Nat} {cs : List Value} (hi : L[i]? = some (bx b cs t)) : Box w b cs t := H.get i hi
theorem Apt.row (H : Apt w0 w L) (i : Nat) {e sz n c : Nat} {X : Option Addr} {cells : List Value} (hi : L[i]? = some (rwi e sz X n c cells)) : Row w w0.heap.size e sz X n c cells := Row.up (H.get i hi) (H.ok i _ hi).lo
theorem Apt.rules (H : Apt w0 w L) (i : Nat) {e1 e2 c : Nat} {X : Option Addr} {rs : List RuleL} {ps : Nat → Option Addr × Nat} (hi : L[i]? = some (rls e1 e2 X c rs ps)) : OwnR e1 e2 w w0.heap.size X c rs ps := OwnR.up (H.get i hi) (H.ok i _ hi).lo
theorem Apt.addBox (H : Apt w0 w L) (g : Gr w w') {b t : Nat} {cs : List Value} (hb : w.heap.size ≤ b) (h : Box w' b cs t) : Apt w0 w' (L ++ [bx b cs t]) := H.add g _ (fun q hq => (show q = b from hq) ▸ hb) (fun q hq => (show q = b from hq) ▸ h.lt) (bx_kept h)
theorem Apt.addRow (H : Apt w0 w L) (g : Gr w w') {e sz n c : Nat} {X : Option Addr} {cells : List Value} (h : Row w' w.heap.size e sz X n c cells) : Apt w0 w' (L ++ [rwi e sz X n c cells]) := H.add g _ (fun q hq => (Row.ge h hq).1) (fun q hq => (Row.ge h hq).2) (rwi_kept h)
theorem Apt.addNil (H : Apt w0 w L) (e sz : Nat) : Apt w0 w (L ++ [rwi e sz none 0 0 []]) := H.addRow (Gr.refl w) (Row.nil _ _ _ _)
end
/-! ### Loops -/
/-- A loop over a state of the prover's own that counts down. -/
theorem loop_ghost {σ : Type} {W : List Nat} {body : (Exit → F → World → Prop) → F → World → Prop} {Q : Exit → F → World → Prop} {f0 : F} {w0 : World} (J : σ → F → World → Prop) (m : σ → Nat) (s0 : σ) (h0 : J s0 f0 w0)
    (h : ∀ s f w (N : F → World → Prop), Agree W f0 f → J s f w → (∀ s' f' w', J s' f' w' → m s' < m s → N f' w') → body (seqQ N Q) f w) : LoopF W body Q f0 w0 := by
  classical
  have hm : ∃ μ : F → World → Nat, (∀ f w s, J s f w → μ f w ≤ m s) ∧ ∀ f w, (∃ s, J s f w) → ∃ s, J s f w ∧ m s = μ f w := by
    have key : ∀ f w, ∃ n, (∀ s, J s f w → n ≤ m s) ∧ ((∃ s, J s f w) → ∃ s, J s f w ∧ m s = n) := fun f w => by
      by_cases hx : ∃ s, J s f w
      · have : ∃ n, ∃ s, J s f w ∧ m s = n := by
          obtain ⟨s, hs⟩ := hx
          exact ⟨_, s, hs, rfl⟩
        have ind : ∀ n, (∃ s, J s f w ∧ m s = n) → ∃ n, (∀ s, J s f w → n ≤ m s) ∧ ∃ s, J s f w ∧ m s = n := by
          intro n
          induction n using Nat.strongRecOn with
          | _ n ih =>
            intro hn
            by_cases hlt : ∃ s, J s f w ∧ m s < n
            · obtain ⟨s, hs, hl⟩ := hlt
              exact ih _ hl ⟨s, hs, rfl⟩
            · exact ⟨n, fun s hs => Classical.byContradiction fun hc => hlt ⟨s, hs, by omega⟩, hn⟩
        obtain ⟨n, hn⟩ := this
        obtain ⟨n', h1, h2⟩ := ind n hn
        exact ⟨n', h1, fun _ => h2⟩
      · exact ⟨0, fun s hs => absurd ⟨s, hs⟩ hx, fun e => absurd e hx⟩
    exact ⟨fun f w => Classical.choose (key f w), fun f w s hs => (Classical.choose_spec (key f w)).1 s hs, fun f w hx => (Classical.choose_spec (key f w)).2 hx⟩
  obtain ⟨μ, hμ1, hμ2⟩ := hm
  refine ⟨fun f w => ∃ s, J s f w, μ, ⟨s0, h0⟩, fun f w hag hx => ?_⟩
  obtain ⟨s, hs, hms⟩ := hμ2 f w hx
  refine h s f w _ hag hs fun s' f' w' hs' hlt => ⟨⟨s', hs'⟩, ?_⟩
  have := hμ1 f' w' s' hs'
  omega
/-- A loop that counts up to n. -/
theorem loop_to {W : List Nat} {body : (Exit → F → World → Prop) → F → World → Prop} {Q : Exit → F → World → Prop} {f0 : F} {w0 : World} (n a : Nat) (J : Nat → F → World → Prop) (h0 : J a f0 w0)
    (h : ∀ i f w (N : F → World → Prop), Agree W f0 f → J i f w → (∀ f' w', i < n → J (i + 1) f' w' → N f' w') → body (seqQ N Q) f w) : LoopF W body Q f0 w0 :=
  loop_ghost J (fun i => n - i) a h0 fun i f w N hag hJ hN => by
    by_cases hlt : i < n
    · exact h i f w N hag hJ fun f' w' _ hJ' => hN (i + 1) f' w' hJ' (by omega)
    · exact h i f w N hag hJ fun f' w' hlt' _ => absurd hlt' hlt
theorem rng6 : Array.range 6 = #[0, 1, 2, 3, 4, 5] := by decide
theorem rdi {A B : Prop} (e : A = B) (h : B) : A := e ▸ h
theorem all_one {vs : List Value} (h : vs.all Value.oneCell' = true) : ∀ v ∈ vs, v.oneCell' = true := fun v hv => List.all_eq_true.1 h v hv
section
variable {P : Program} {k : Value → World → Prop} {w0 w : World} {L : List Thing}
theorem boxH (H : Apt w0 w L) {t : TypeId} {v : Value} (h : ∀ b w', Apt w0 w' (L ++ [bx b v.cells.toList t]) → k (.pointer (some ⟨b, 0, none⟩)) w') : Do P (sBox t v) k w :=
  do_box fun b w' g hb hB => h b w' (H.addBox g hb hB)
theorem allocH (H : Apt w0 w L) {t sz by' : Nat} {z : Value} (I : Inf P t z sz by') (h : ∀ b w', Apt w0 w' (L ++ [bx b z.cells.toList t]) → k (.pointer (some ⟨b, 0, none⟩)) w') : Do P (sAlloc t) k w :=
  do_alloc_of I fun b w' g hb hB => h b w' (H.addBox g hb hB)
theorem storeH (H : Apt w0 w L) (i : Nat) {b e : Nat} {cs : List Value} (hi : L[i]? = some (bx b cs e)) {t n off : Nat} {v : Value} (hs : szOf P t n) (hv : v.cells.size = n) (h1 : v.cells.toList.all Value.oneCell' = true) (hl : Nat.ble (off + n) cs.length = true)
    (h : ∀ w', Apt w0 w' (L.set i (bx b (cs.take off ++ v.cells.toList ++ cs.drop (off + n)) e)) → k undef w') : Do P (sStore t (.pointer (some ⟨b, off, none⟩)) v) k w :=
  do_store hs hv (all_one h1) (H.box i hi) (Nat.le_of_ble_eq_true hl) fun w' g hsz hb => h w' (H.set hi (gx_of g fun q hq => by cases hq; rfl) (fun q hq => .inl hq) (fun q hq => (show q = b from hq) ▸ hb.lt) (bx_kept hb))
theorem appendH (H : Apt w0 w L) (i : Nat) {t e u sz by' n c m d : Nat} {X Y : Option Addr} {cells news : List Value} {z : Value} (hi : L[i]? = some (rwi e sz X n c cells)) (ht : P.underlying t = some (.slice e)) (I : Inf P e z sz by') (hzs : z.cells.size = sz) (hsz : 0 < sz)
    {cs : List Bool} (hS : Src w Y news) (hl : news.length = m * sz) (h1 : ∀ v ∈ news, v.oneCell' = true) (hm : (n + m) * by' ≤ 140737488355328) (hmax : n + m ≤ 9223372036854775807)
    (h : ∀ X' c' w', Apt w0 w' (L.set i (rwi e sz X' (n + m) c' (cells ++ news))) → k (.slice X' (n + m) c') w') : Do P (sBuiltin .append #[t, t] u cs [.slice X n c, .slice Y m d]) k w :=
  do_append2 ht I hzs hsz (H.row i hi) hS hl h1 hm hmax H.gr.size fun X' c' w' hr hg hmv => h X' c' w' (H.set hi (gx_of hg fun q hq => hq) (fun q hq => by
    rcases hmv with e | e
    · exact .inl (show blk X = some q from e ▸ (show blk X' = some q from hq))
    · exact .inr (e q hq)) (fun q hq => (Row.ge hr hq).2) (rwi_kept hr))
theorem makeH (H : Apt w0 w L) {t e sz by' : Nat} {z : Value} (ht : P.underlying t = some (.slice e)) (I : Inf P e z sz by') {kl kc : IntKind} {n : Nat} (hm : by' * n ≤ 281474976710656) (hmax : n ≤ 9223372036854775807)
    (h : ∀ b w', Apt w0 w' (L ++ [rwi e sz (some ⟨b, 0, none⟩) n n (madeCells z.cells (n * sz)).toList]) → k (.slice (some ⟨b, 0, none⟩) n n) w') : Do P (sMakeSlice t (.int kl n) (.int kc n)) k w :=
  do_make_of ht I hm hmax fun b w' hb hb' g hr => h b w' (H.addRow g (hr _ (Nat.le_refl _)))
theorem buildH (H : Apt w0 w L) {t e sz by' n : Nat} {z : Value} (ht : P.underlying t = some (.slice e)) (I : Inf P e z sz by') {ps : List (Nat × Value)} (cells : List Value) (hn : n * sz ≤ 16777216) (hn' : n ≤ 9223372036854775807)
    (hf : Instr.fill (fun j => some (j * sz, sz)) (madeCells (if n * sz = 0 then #[] else z.cells) (n * sz)) ps = some cells.toArray) (hl : cells.length = n * sz)
    (h : ∀ b w', Apt w0 w' (L ++ [rwi e sz (some ⟨b, 0, none⟩) n n cells]) → k (.slice (some ⟨b, 0, none⟩) n n) w') : Do P (sBuildSlice t n ps) k w :=
  do_build_of ht I hn hn' hf hl fun b w' hb hb' g hB hr => h b w' (H.addRow g (hr _ (Nat.le_refl _)))
end
section
variable {P : Program} {k : Value → Prop}
theorem rdG {w : World} {h : Gr w w} {t off b e : Nat} {cs : List Value} {v : Value} (ht : one P t) (hb : Box w b cs e) (hc : cs[off]? = some v) : Rd P ⟨fun w' => Gr w w', w, h⟩ (sLoad t (.pointer (some ⟨b, off, none⟩))) k = k v :=
  rd_load1 ht fun w' hw => ((hb.gr hw).cell off).trans hc
theorem rdG_agg {w : World} {h : Gr w w} {t b e n : Nat} {cs : List Value} (ht : agg P t) (hs : szOf P t n) (hn : cs.length = n) (hb : Box w b cs e) : Rd P ⟨fun w' => Gr w w', w, h⟩ (sLoad t (.pointer (some ⟨b, 0, none⟩))) k = k (.agg cs.toArray) :=
  rd_loadAgg ht hs hn fun w' hw j hj => by
    rw [zq34, Nat.zero_add, (hb.gr hw).cell]
    exact List.getElem?_eq_getElem hj
end
end Go.Sh
namespace Go.Proofs.Ytegcjkhebecgbaa
open Go Go.Sh Go.RowKit
def ows (X : Option Addr) (c : Nat) (xs : List Int) : Thing := rwi 3 1 X xs.length c (ints xs)
section
variable {k : Value → World → Prop} {w0 w w' : World} {L : List Thing}
theorem _root_.Go.Sh.Apt.own (H : Apt w0 w L) (i : Nat) {c : Nat} {X : Option Addr} {xs : List Int} (hi : L[i]? = some (ows X c xs)) : Own 3 w w0.heap.size X c xs := H.row i hi
theorem _root_.Go.Sh.Apt.ints (H : Apt w0 w L) (i : Nat) {c : Nat} {X : Option Addr} {xs : List Int} (hi : L[i]? = some (ows X c xs)) : Ints w X xs := Own.ints (H.own i hi)
theorem _root_.Go.Sh.Apt.addOwn (H : Apt w0 w L) (g : Gr w w') {c : Nat} {X : Option Addr} {xs : List Int} (h : Own 3 w' w.heap.size X c xs) : Apt w0 w' (L ++ [ows X c xs]) := H.addRow g h
/-- append of numbers to numbers. -/
theorem apH (H : Apt w0 w L) (i : Nat) {u n c m d : Nat} {X Y : Option Addr} {xs ys : List Int} (hi : L[i]? = some (ows X c xs)) {cs : List Bool} (hY : Ints w Y ys) (hn : n = xs.length) (hm : m = ys.length) (hb : (xs.length + ys.length) * 8 ≤ 140737488355328)
    (h : ∀ X' c' w', Apt w0 w' (L.set i (ows X' c' (xs ++ ys))) → k (.slice X' (xs ++ ys).length c') w') : Do Try.prog (sBuiltin .append #[27, 27] u cs [.slice X n c, .slice Y m d]) k w := by
  subst hn
  subst hm
  refine appendH H i hi u27 inf3 rfl (by decide) hY.src (by rw [ints_length, Nat.mul_one]) (ints_one ys) hb (by omega) fun X' c' w' H' => ?_
  rw [← ints_append, ← List.length_append] at H'
  rw [← List.length_append]
  exact h X' c' w' H'
/-- append of one number. -/
theorem pushH {k : Value → Value → World → Prop} (H : Apt w0 w L) (i : Nat) {u n c : Nat} {X : Option Addr} {xs : List Int} {x : Int} (hi : L[i]? = some (ows X c xs)) {cs : List Bool} (hn : n = xs.length) (hb : xs.length ≤ 1000000000)
    (h : ∀ t X' c' w', Apt w0 w' (L.set i (ows X' c' (xs ++ [x]))) → k t (.slice X' (xs ++ [x]).length c') w') : Do Try.prog (sBuildSlice 27 1 [(0, .int .i64 x)]) (fun t w1 => Do Try.prog (sBuiltin .append #[27, 27] u cs [.slice X n c, t]) (k t) w1) w := by
  refine bs27 [.int .i64 x] (by decide) (by simp [Instr.fill, madeCells, Value.cells, rng1]) rfl fun b w1 hb1 hb2 g hB hr => ?_
  refine apH (H.step g) i hi (ys := [x]) (Own.ints (show Own 3 w1 w.heap.size (some ⟨b, 0, none⟩) 1 [x] from hr _ (Nat.le_refl _))) hn rfl (by simp; omega) fun X' c' w' H' => h _ X' c' w' H'
end
end Go.Proofs.Ytegcjkhebecgbaa

/- Contracts of what PumpWord reaches. -/
set_option linter.unusedVariables false
set_option linter.unusedSimpArgs false
set_option maxRecDepth 100000
namespace Go.Sh
open Go
def seg (xs : List Int) (a b : Int) : List Int := (xs.drop a.toNat).take (b.toNat - a.toNat)
def rep (m : Nat) (l : List Int) : List Int := (List.replicate m l).flatten
theorem rep_succ (m : Nat) (l : List Int) : rep (m + 1) l = rep m l ++ l := by
  unfold rep
  rw [List.replicate_succ', List.flatten_append]
  simp
theorem rep_length (m : Nat) (l : List Int) : (rep m l).length = m * l.length := by
  induction m with
  | zero => simp [rep]
  | succ m ih => rw [rep_succ, List.length_append, ih, Nat.succ_mul]
structure Cuts (cs : List Int) (n : Nat) : Prop where
  len : cs.length = 4
  lo : 0 ≤ cs.getD 0 0
  h01 : cs.getD 0 0 ≤ cs.getD 1 0
  h12 : cs.getD 1 0 ≤ cs.getD 2 0
  h23 : cs.getD 2 0 ≤ cs.getD 3 0
  hi : cs.getD 3 0 ≤ n
instance (cs : List Int) (n : Nat) : Decidable (Cuts cs n) :=
  decidable_of_iff (cs.length = 4 ∧ 0 ≤ cs.getD 0 0 ∧ cs.getD 0 0 ≤ cs.getD 1 0 ∧ cs.getD 1 0 ≤ cs.getD 2 0 ∧ cs.getD 2 0 ≤ cs.getD 3 0 ∧ cs.getD 3 0 ≤ n)
    ⟨fun ⟨a, b, c, d, e, f⟩ => ⟨a, b, c, d, e, f⟩, fun h => ⟨h.len, h.lo, h.h01, h.h12, h.h23, h.hi⟩⟩
def pumpL (xs cs : List Int) (m : Nat) : List Int :=
  seg xs 0 (cs.getD 0 0) ++ rep m (seg xs (cs.getD 0 0) (cs.getD 1 0)) ++ seg xs (cs.getD 1 0) (cs.getD 2 0) ++ rep m (seg xs (cs.getD 2 0) (cs.getD 3 0)) ++ seg xs (cs.getD 3 0) xs.length
end Go.Sh
namespace Go.Proofs.Ytegcjkhebecgbaa
open Go Go.Sh Go.RowKit

theorem l1Own_c {w : World} {X : Option Addr} {c n : Nat} {xs : List Int} (hx : Ints w X xs) (hn : n = xs.length) (hb : xs.length * 8 ≤ 140737488355328) {k : Value → World → Prop}
    (hk : ∀ X' c' w', Gr w w' → Own 3 w' w.heap.size X' c' xs → k (.slice X' xs.length c') w') : CallK Try.prog 158 [.slice X n c] k w := by
  subst hn
  refine enter158 ?_
  unfold S158
  refine bs27 [] (by decide) (by simp [Instr.fill, madeCells]) rfl fun b w1 hb1 hb2 hg hbox hrow => ?_
  refine ap27 (hrow _ (Nat.le_refl _)) (hx.gr hg).src (by rw [ints_length, Nat.mul_one]) (ints_one xs) (by omega) hg.size fun X' c' w2 hr hg2 => ?_
  rw [Nat.zero_add] at hr ⊢
  exact hk X' c' w2 (gr_mod hg hg2 fun q hq => by simp [blk] at hq; omega) hr

/-- append to a row of ints. -/
theorem apI {u : TypeId} {cs : List Bool} {w : World} {k : Value → World → Prop} {B c d n m : Nat} {X Y : Option Addr} {xs ys : List Int} (hO : Own 3 w B X c xs) (hY : Ints w Y ys) (hn : n = xs.length) (hm : m = ys.length) (hb : (xs.length + ys.length) * 8 ≤ 140737488355328) (hB : B ≤ w.heap.size)
    (h : ∀ X' c' w', Own 3 w' B X' c' (xs ++ ys) → w.grownBy w' (blk X) → k (.slice X' (xs ++ ys).length c') w') : Do Try.prog (sBuiltin .append #[27, 27] u cs [.slice X n c, .slice Y m d]) k w := by
  subst hn
  subst hm
  refine ap27 hO hY.src (by rw [ints_length, Nat.mul_one]) (ints_one ys) hb hB fun X' c' w' hr hg => ?_
  rw [← ints_append, ← List.length_append] at hr
  rw [← List.length_append]
  exact h X' c' w' hr hg

theorem Ints_seg {w : World} {X : Option Addr} {xs : List Int} {c : Nat} (h : Ints w X xs) (hc : xs.length ≤ c) {a b : Int} (h0 : 0 ≤ a) (h1 : a ≤ b) (h2 : b ≤ xs.length) : Ints w (sub X a.toNat c 1) (seg xs a b) ∧ (seg xs a b).length = b.toNat - a.toNat := by
  refine ⟨h.sub (by omega) hc _, ?_⟩
  unfold seg
  simp
  omega

end Go.Proofs.Ytegcjkhebecgbaa

/- Contracts of what PumpWord reaches, second part. -/
set_option linter.unusedVariables false
set_option linter.unusedSimpArgs false
set_option maxRecDepth 100000
namespace Go.Sh
open Go
def pumpW (xs cs : List Int) (many : Int) : Option (List Int) :=
  if xs.length ≤ 60 ∧ allB xs 0 1000000 = true ∧ Cuts cs xs.length ∧ inB many 0 4 = true then
    (if (pumpL xs cs many.toNat).length ≤ 60 then some (pumpL xs cs many.toNat) else none)
  else none
end Go.Sh
namespace Go.Proofs.Ytegcjkhebecgbaa
open Go Go.Sh Go.RowKit

/-- A function value that tells of a number, in whatever world has grown. -/
def Pred (t : Nat) (fv : Value) (p : Int → Bool) (w : World) : Prop := ∀ w1, Gr w w1 → ∀ (x : Int) (k : Value → World → Prop), (∀ w2, Gr w1 w2 → k (.bool (p x)) w2) → Do Try.prog (sCallV fv [.int .i64 x] t) k w1
theorem indexFunc_c {w : World} {X : Option Addr} {c : Nat} {xs : List Int} {fv : Value} {p : Int → Bool} (hx : Ints w X xs) (hp : Pred 4 fv p w) {k : Value → World → Prop}
    (hk : ∀ (r : Int) w', Gr w w' → decide (0 ≤ r) = xs.any p → (0 ≤ r → r < xs.length ∧ p (xs.getD r.toNat 0) = true ∧ ∀ j : Nat, j < r → p (xs.getD j 0) = false) → k (.int .i64 r) w') :
    CallK Try.prog 177 [.slice X xs.length c, fv] k w := by
  refine enter177 ?_
  unfold S177
  simp only [go_sem, Nat.reduceEqDiff]
  refine ⟨fun f w' => ∃ i : Nat, i ≤ xs.length ∧ f 8 = .int .i64 i ∧ Gr w w' ∧ ∀ j, j < i → p (xs.getD j 0) = false, fun f _ => xs.length - (intOf (f 8)).toNat, ⟨0, Nat.zero_le _, rfl, Gr.refl w, fun j hj => absurd hj (Nat.not_lt_zero j)⟩, ?_⟩
  rintro f w1 hag ⟨i, hi, h8, hg, hpre⟩
  have f0 : f 0 = .slice X xs.length c := hag 0 (by decide)
  have f1 : f 1 = fv := hag 1 (by decide)
  have f7 : f 7 = .int .i64 xs.length := hag 7 (by decide)
  simp only [f0, f1, f7, h8, go_sem, Nat.reduceEqDiff]
  by_cases hlt : i < xs.length
  · have hlt' : (i : Int) < xs.length := by omega
    have := hx.le
    simp only [hlt', decide_true, go_sem, Nat.reduceEqDiff]
    rw [ixn27 hx.ptr hlt, ld3 ((hx.gr hg).cell i hlt)]
    refine hp w1 hg _ _ fun w2 g2 => ?_
    have g2' := gr_trans hg g2
    cases hb : p (xs.getD i 0)
    · simp only [go_sem, Nat.reduceEqDiff]
      rw [i64_of (by omega) (by omega)]
      refine ⟨⟨i + 1, hlt, rfl, g2', fun j hj => ?_⟩, ?_⟩
      · rcases Nat.lt_succ_iff_lt_or_eq.1 hj with h | rfl
        · exact hpre j h
        · exact hb
      · simp only [intOf]
        omega
    · simp only [go_sem, Nat.reduceEqDiff]
      refine hk i w2 g2' ?_ fun _ => ⟨hlt', hb, fun j hj => hpre j (by omega)⟩
      rw [decide_eq_true (by omega), eq_comm, List.any_eq_true]
      exact ⟨_, getD_mem hlt, hb⟩
  · simp only [show ¬ (i : Int) < xs.length from by omega, decide_false, go_sem, Nat.reduceEqDiff]
    refine hk (-1) w1 hg ?_ fun h => absurd h (by decide)
    rw [decide_eq_false (by decide), eq_comm, List.any_eq_false]
    intro x hx'
    obtain ⟨j, hj, rfl⟩ := List.getElem_of_mem hx'
    have := hpre j (by omega)
    rw [List.getD_eq_getElem?_getD, List.getElem?_eq_getElem hj] at this
    simpa using this
theorem containsFunc_c {w : World} {X : Option Addr} {c : Nat} {xs : List Int} {fv : Value} {p : Int → Bool} (hx : Ints w X xs) (hp : Pred 4 fv p w) {k : Value → World → Prop}
    (hk : ∀ w', Gr w w' → k (.bool (xs.any p)) w') : CallK Try.prog 250 [.slice X xs.length c, fv] k w := by
  refine enter250 ?_
  unfold S250
  refine indexFunc_c hx hp fun r w' g h _ => ?_
  simp only [go_sem, Nat.reduceEqDiff]
  rw [h]
  exact hk w' g
theorem pumpWord1_c {x : Int} {w : World} {k : Value → World → Prop} (hk : k (.bool (!inB x 0 1000000)) w) : CallK Try.prog 296 [.int .i64 x] k w := by
  refine enter296 ?_
  unfold S296
  refine in_c ?_
  simp only [go_sem, Nat.reduceEqDiff]
  exact hk
end Go.Proofs.Ytegcjkhebecgbaa

/- Contracts: what a good grammar is, by the reference and by the program. -/
set_option linter.unusedVariables false
set_option linter.unusedSimpArgs false
set_option maxRecDepth 100000
namespace Go.Sh
open Go
def symB (nons toks s : Int) : Bool := inB s (-toks) (nons - 1)
def goodR (nons toks : Int) (rs : List RuleL) (i : Nat) : Bool :=
  inB (rul rs i).1 0 (nons - 1) && decide ((rul rs i).2.length ≤ 4) && (rul rs i).2.all (symB nons toks) && !(rs.take i).any fun q => decide (rul rs i = q)
def goodG (g : Gram) : Bool := inB g.nons 1 6 && inB g.toks 1 4 && decide (g.rules.length ≤ 16) && (List.range g.rules.length).all (goodR g.nons g.toks g.rules)
theorem range_all {n : Nat} {p : Nat → Bool} (h : ∀ j, j < n → p j = true) : (List.range n).all p = true := by
  rw [List.all_eq_true]
  intro x hx
  exact h x (List.mem_range.1 hx)
theorem range_not {n i : Nat} {p : Nat → Bool} (hi : i < n) (h : p i = false) : (List.range n).all p = false := by
  rw [List.all_eq_false]
  exact ⟨i, List.mem_range.2 hi, by rw [h]; decide⟩
theorem any_of_rul {rs : List RuleL} {p : RuleL → Bool} {i : Nat} (hi : i < rs.length) (h : p (rul rs i) = true) : rs.any p = true := by
  rw [List.any_eq_true]
  exact ⟨_, by rw [rul_eq hi]; exact List.getElem_mem hi, h⟩
theorem any_none_rul {rs : List RuleL} {p : RuleL → Bool} (h : ∀ j, j < rs.length → p (rul rs j) = false) : rs.any p = false := by
  rw [List.any_eq_false]
  intro x hx
  obtain ⟨j, hj, rfl⟩ := List.getElem_of_mem hx
  have := h j hj
  rw [rul_eq hj] at this
  simp [this]
theorem sub_zero (Y : Option Addr) (c sz : Nat) : sub Y 0 c sz = Y := by
  unfold sub
  split
  · rfl
  · cases Y <;> simp [zq35]
theorem RulesF.take {F : Nat → Prop} {w : World} {X : Option Addr} {rs : List RuleL} (h : RulesF F w X rs) (i : Nat) : RulesF F w X (rs.take i) := by
  have hl : (rs.take i).length ≤ rs.length := by simp; omega
  refine ⟨by have := h.le; omega, fun hp => h.ptr (by omega), fun hp => h.foot (by omega), fun j hj => ?_⟩
  have hji : j < i := by simp at hj; omega
  rw [rul_take hji]
  exact h.row j (by omega)
end Go.Sh
namespace Go.Proofs.Ytegcjkhebecgbaa
open Go Go.Sh Go.RowKit

theorem l1Symbol_c {F : Nat → Prop} {w : World} {v : Value} {gm : Gram} {s : Int} (hv : GramV F w v gm) (hn : inB gm.nons 1 6 = true) (ht : inB gm.toks 1 4 = true) {k : Value → World → Prop} (hk : ∀ w', Gr w w' → k (.bool (symB gm.nons gm.toks s)) w') :
    CallK Try.prog 238 [v, .int .i64 s] k w := by
  obtain ⟨Y, c, rfl, hc, hy⟩ := hv
  have hn' : 1 ≤ gm.nons ∧ gm.nons ≤ 6 := by simpa [inB] using hn
  have ht' : 1 ≤ gm.toks ∧ gm.toks ≤ 4 := by simpa [inB] using ht
  refine enter238 ?_
  unfold S238
  refine do_box fun b w1 g1 hb1 hB => ?_
  simp only [go_sem, Nat.reduceEqDiff]
  rw [ldB3 hB rfl]
  simp only [go_sem, Nat.reduceEqDiff]
  rw [ldB3 hB rfl]
  simp only [go_sem, Nat.reduceEqDiff]
  rw [i64_of (by omega) (by omega), i64_of (by omega) (by omega)]
  exact l1In_c (hk _ g1)
theorem l1Same_c {w : World} {X Y : Option Addr} {c d : Nat} {xs ys : List Int} (hx : Ints w X xs) (hy : Ints w Y ys) {k : Value → World → Prop} (hk : ∀ w', Gr w w' → k (.bool (decide (xs = ys))) w') :
    CallK Try.prog 300 [.slice X xs.length c, .slice Y ys.length d] k w := by
  refine enter300 ?_
  unfold S300
  simp only [go_sem, Nat.reduceEqDiff]
  by_cases hl : xs.length = ys.length
  rotate_left
  · simp only [Int.ofNat_inj, hl, decide_false, Bool.not_false, go_sem, Nat.reduceEqDiff]
    have := hk _ (Gr.refl w)
    rwa [decide_eq_false (fun e => hl (by rw [e]))] at this
  simp only [Int.ofNat_inj, hl, decide_true, Bool.not_true, go_sem, Nat.reduceEqDiff]
  rw [← hl]
  refine ⟨fun f w' => ∃ i : Nat, i ≤ xs.length ∧ f 13 = .int .i64 i ∧ Gr w w' ∧ xs.take i = ys.take i, fun f _ => xs.length - (intOf (f 13)).toNat, ⟨0, Nat.zero_le _, rfl, Gr.refl w, rfl⟩, ?_⟩
  rintro f w1 hag ⟨i, hi, h13, hg, hpre⟩
  have h0 : f 0 = .slice X xs.length c := hag 0 (by decide)
  have h1 : f 1 = .slice Y xs.length d := hag 1 (by decide)
  have h12 : f 12 = .int .i64 xs.length := hag 12 (by decide)
  simp only [h0, h1, h12, h13, go_sem, Nat.reduceEqDiff]
  by_cases hlt : i < xs.length
  · have hlt' : (i : Int) < xs.length := by omega
    have := hx.le
    simp only [hlt', decide_true, go_sem, Nat.reduceEqDiff]
    rw [ixn27 hx.ptr hlt, ld3 ((hx.gr (gr_trans hg (gr_drew w1))).cell i hlt), ixn27 (hl ▸ hy.ptr) hlt, ld3 ((hy.gr (gr_trans hg (gr_drew w1))).cell i (by omega))]
    simp only [go_sem, Nat.reduceEqDiff]
    by_cases he : xs.getD i 0 = ys.getD i 0
    · simp only [he, decide_true, Bool.not_true, go_sem, Nat.reduceEqDiff]
      rw [i64_of (by omega) (by omega)]
      refine ⟨⟨i + 1, hlt, rfl, gr_trans hg (gr_drew w1), ?_⟩, ?_⟩
      · rw [take_snoc hlt, take_snoc (by omega), hpre, he]
      · simp only [intOf]
        omega
    · simp only [he, decide_false, Bool.not_false, go_sem, Nat.reduceEqDiff]
      have := hk _ (gr_trans hg (gr_drew w1))
      rwa [decide_eq_false (fun e => he (by rw [e]))] at this
  · simp only [show ¬ (i : Int) < xs.length from by omega, decide_false, go_sem, Nat.reduceEqDiff]
    have := hk _ hg
    rwa [decide_eq_true] at this
    rwa [List.take_of_length_le (by omega), List.take_of_length_le (by omega)] at hpre
theorem l1SameRule_c {F E : Nat → Prop} {w : World} {v u : Value} {r q : RuleL} (hv : RuleV F w v r) (hu : RuleV E w u q) {k : Value → World → Prop} (hk : ∀ w', Gr w w' → k (.bool (decide (r = q))) w') :
    CallK Try.prog 239 [v, u] k w := by
  obtain ⟨Y, c, rfl, hc, hy⟩ := hv
  obtain ⟨Z, d, rfl, hd, hz⟩ := hu
  refine enter239 ?_
  unfold S239
  refine do_box fun b w1 g1 hb1 hb => ?_
  refine do_box fun b' w2 g2 hb2 hb' => ?_
  have hb := hb.gr g2
  have g := gr_trans g1 g2
  simp only [go_sem, Nat.reduceEqDiff]
  rw [ldB3 hb rfl, ldB3 hb' rfl]
  simp only [go_sem, Nat.reduceEqDiff]
  by_cases h : r.1 = q.1
  · simp only [h, decide_true, go_sem, Nat.reduceEqDiff]
    rw [ldB27 hb rfl]
    rw [ldB27 hb' rfl]
    refine l1Same_c (hy.is.gr g) (hz.is.gr g) fun w3 g3 => ?_
    have := hk w3 (gr_trans g g3)
    by_cases h2 : r.2 = q.2
    · simp only [h2, decide_true, go_sem, Nat.reduceEqDiff]
      rwa [decide_eq_true (Prod.ext h h2)] at this
    · simp only [h2, decide_false, go_sem, Nat.reduceEqDiff]
      rwa [decide_eq_false (fun e => h2 (by rw [e]))] at this
  · simp only [h, decide_false, go_sem, Nat.reduceEqDiff]
    have := hk w2 g
    rwa [decide_eq_false (fun e => h (by rw [e]))] at this
theorem goodGrammar_c {F : Nat → Prop} {w : World} {v : Value} {gm : Gram} (hv : GramV F w v gm) {k : Value → World → Prop} (hk : ∀ w', Gr w w' → k (.bool (goodG gm)) w') :
    CallK Try.prog 127 [v] k w := by
  have hv0 := hv
  obtain ⟨Y, c, rfl, hc, hy⟩ := hv
  refine enter127 ?_
  unfold S127
  refine do_box fun b w1 g1 hb1 hB => ?_
  simp only [go_sem, Nat.reduceEqDiff]
  rw [ldB3 hB rfl]
  refine l1In_c ?_
  cases hn : inB gm.nons 1 6
  · simp only [Bool.not_false, go_sem, Nat.reduceEqDiff]
    have := hk _ g1
    rwa [show goodG gm = false from by simp [goodG, hn]] at this
  simp only [Bool.not_true, go_sem, Nat.reduceEqDiff]
  rw [ldB3 hB rfl]
  refine l1In_c ?_
  cases ht : inB gm.toks 1 4
  · simp only [Bool.not_false, go_sem, Nat.reduceEqDiff]
    have := hk _ g1
    rwa [show goodG gm = false from by simp [goodG, ht]] at this
  simp only [Bool.not_true, go_sem, Nat.reduceEqDiff]
  rw [ldB24 hB rfl]
  simp only [go_sem, Nat.reduceEqDiff]
  by_cases hl : gm.rules.length ≤ 16
  rotate_left
  · simp only [show (16 : Int) < gm.rules.length from by omega, decide_true, go_sem, Nat.reduceEqDiff]
    have := hk _ g1
    rwa [show goodG gm = false from by simp [goodG, hl]] at this
  simp only [show ¬ (16 : Int) < gm.rules.length from by omega, decide_false, go_sem, Nat.reduceEqDiff]
  rw [ldB24 hB rfl]
  simp only [go_sem, Nat.reduceEqDiff]
  have hn' : 1 ≤ gm.nons ∧ gm.nons ≤ 6 := by simpa [inB] using hn
  have ht' : 1 ≤ gm.toks ∧ gm.toks ≤ 4 := by simpa [inB] using ht
  refine ⟨fun f w' => ∃ i : Nat, i ≤ gm.rules.length ∧ f 28 = .int .i64 i ∧ Gr w1 w' ∧ ∀ j, j < i → goodR gm.nons gm.toks gm.rules j = true, fun f _ => gm.rules.length - (intOf (f 28)).toNat, ⟨0, Nat.zero_le _, rfl, Gr.refl w1, fun j hj => absurd hj (Nat.not_lt_zero j)⟩, ?_⟩
  rintro f w2 hag ⟨i, hi, h28, g2, hpre⟩
  have f1 : f 1 = .pointer (some ⟨b, 0, none⟩) := hag 1 (by decide)
  have f26 : f 26 = .slice Y gm.rules.length c := hag 26 (by decide)
  have f27 : f 27 = .int .i64 gm.rules.length := hag 27 (by decide)
  simp only [f1, f26, f27, h28, go_sem, Nat.reduceEqDiff]
  by_cases hlt : i < gm.rules.length
  · have hlt' : (i : Int) < gm.rules.length := by omega
    simp only [hlt', decide_true, go_sem, Nat.reduceEqDiff]
    have g := gr_trans g1 g2
    rw [ixn24 hy.ptr hlt]
    refine ld_rule agg33 sz33 (hy.gr g) hlt fun v hv => ?_
    obtain ⟨Z, d, rfl, hd, hz⟩ := hv
    refine do_alloc_of inf33 fun b3 w3 g3 hb3 h3 => ?_
    have n3 := (hB.gr g2).ne hb3
    refine do_store sz33 rfl (by intro u hu; simp [Value.cells] at hu; rcases hu with rfl | rfl <;> rfl) h3 (by simp [Value.cells]) fun w4 g4 s4 h4 => ?_
    have hB2 := (hB.gr (gr_trans g2 g3)).put g4 n3
    have g' := gr_put (gr_trans g g3) g4 (Nat.le_trans g.size hb3)
    have k0 : goodR gm.nons gm.toks gm.rules i = false → ∀ w', Gr w w' → k (.bool false) w' := fun h w' gw => by
      have := hk w' gw
      rwa [show goodG gm = false from by simp only [goodG, range_not hlt h, Bool.and_false]] at this
    simp only [go_sem, Nat.reduceEqDiff]
    rw [ldB3 h4 rfl, ldB3 hB2 rfl]
    simp only [go_sem, Nat.reduceEqDiff]
    rw [i64_of (by omega) (by omega)]
    refine l1In_c ?_
    cases hr : inB (rul gm.rules i).1 0 (gm.nons - 1)
    · simp only [Bool.not_false, go_sem, Nat.reduceEqDiff]
      exact k0 (by simp [goodR, hr]) _ g'
    simp only [Bool.not_true, go_sem, Nat.reduceEqDiff]
    rw [ldB27 h4 rfl]
    simp only [go_sem, Nat.reduceEqDiff]
    by_cases h5 : (rul gm.rules i).2.length ≤ 4
    rotate_left
    · simp only [show (4 : Int) < (rul gm.rules i).2.length from by omega, decide_true, go_sem, Nat.reduceEqDiff]
      exact k0 (by simp [goodR, h5]) _ g'
    simp only [show ¬ (4 : Int) < (rul gm.rules i).2.length from by omega, decide_false, go_sem, Nat.reduceEqDiff]
    rw [ldB27 h4 rfl]
    simp only [go_sem, Nat.reduceEqDiff]
    refine ⟨fun f' w' => ∃ j : Nat, j ≤ (rul gm.rules i).2.length ∧ f' 49 = .int .i64 j ∧ Gr w4 w' ∧ ∀ l, l < j → symB gm.nons gm.toks ((rul gm.rules i).2.getD l 0) = true, fun f' _ => (rul gm.rules i).2.length - (intOf (f' 49)).toNat, ⟨0, Nat.zero_le _, rfl, Gr.refl w4, fun j hj => absurd hj (Nat.not_lt_zero j)⟩, ?_⟩
    rintro f' w5 hag' ⟨j, hj, h49, g5, hpre'⟩
    have e1 : f' 1 = .pointer (some ⟨b, 0, none⟩) := (hag' 1 (by decide)).trans f1
    have e3 : f' 3 = .int .i64 i := hag' 3 (by decide)
    have e4 : f' 4 = .pointer (some ⟨b3, 0, none⟩) := hag' 4 (by decide)
    have e28 : f' 28 = .int .i64 i := (hag' 28 (by decide)).trans h28
    have e47 : f' 47 = .slice Z (rul gm.rules i).2.length d := hag' 47 (by decide)
    have e48 : f' 48 = .int .i64 (rul gm.rules i).2.length := hag' 48 (by decide)
    have gw5 := gr_trans g' g5
    have gw45 : Gr w2 w5 := gr_trans (gr_put g3 g4 hb3) g5
    simp only [e1, e47, e48, h49, go_sem, Nat.reduceEqDiff]
    by_cases hlt2 : j < (rul gm.rules i).2.length
    · have hlt2' : (j : Int) < (rul gm.rules i).2.length := by omega
      simp only [hlt2', decide_true, go_sem, Nat.reduceEqDiff]
      rw [ixn27 hz.is.ptr hlt2, ld3 ((hz.is.gr gw45).cell j hlt2), ldB_agg agg26 sz26 rfl (hB2.gr g5)]
      refine l1Symbol_c (gm := gm) ⟨Y, c, rfl, hc, hy.gr gw5⟩ hn ht fun w6 g6 => ?_
      simp only [go_sem, Nat.reduceEqDiff]
      cases hs : symB gm.nons gm.toks ((rul gm.rules i).2.getD j 0)
      · simp only [Bool.not_false, go_sem, Nat.reduceEqDiff]
        exact k0 (by simp only [goodR, not_all_of hlt2 hs, Bool.and_false, Bool.false_and]) _ (gr_trans gw5 g6)
      · simp only [Bool.not_true, go_sem, Nat.reduceEqDiff]
        rw [i64_of (by omega) (by omega)]
        refine ⟨⟨j + 1, hlt2, rfl, gr_trans g5 g6, fun l hl => ?_⟩, ?_⟩
        · rcases Nat.lt_succ_iff_lt_or_eq.1 hl with h | rfl
          · exact hpre' l h
          · exact hs
        · simp only [intOf]
          omega
    simp only [show ¬ (j : Int) < (rul gm.rules i).2.length from by omega, decide_false, go_sem, Nat.reduceEqDiff]
    have hall : (rul gm.rules i).2.all (symB gm.nons gm.toks) = true := all_of fun l hl => hpre' l (by omega)
    simp only [e1, e3, go_sem, Nat.reduceEqDiff]
    rw [ldB24 (hB2.gr g5) rfl]
    rw [slh24 (by omega) (by omega), sub_zero]
    simp only [Int.toNat_natCast, go_sem, Nat.reduceEqDiff]
    have hti : (gm.rules.take i).length = i := by simp; omega
    have hyt : RulesF F w5 Y (gm.rules.take i) := (hy.gr gw5).take i
    refine ⟨fun f' w' => ∃ j : Nat, j ≤ i ∧ f' 63 = .int .i64 j ∧ Gr w5 w' ∧ ∀ l, l < j → decide (rul gm.rules i = rul gm.rules l) = false, fun f' _ => i - (intOf (f' 63)).toNat, ⟨0, Nat.zero_le _, rfl, Gr.refl w5, fun j hj => absurd hj (Nat.not_lt_zero j)⟩, ?_⟩
    rintro f2 w6 hag2 ⟨m, hm, h63, g6, hpre2⟩
    have d4 : f2 4 = .pointer (some ⟨b3, 0, none⟩) := (hag2 4 (by decide)).trans e4
    have d28 : f2 28 = .int .i64 i := (hag2 28 (by decide)).trans e28
    have d61 : f2 61 = .slice Y i c := hag2 61 (by decide)
    have d62 : f2 62 = .int .i64 i := hag2 62 (by decide)
    have gw6 := gr_trans gw5 g6
    simp only [d4, d28, d61, d62, h63, go_sem, Nat.reduceEqDiff]
    by_cases hlt3 : m < i
    · have hlt3' : (m : Int) < i := by omega
      simp only [hlt3', decide_true, go_sem, Nat.reduceEqDiff]
      rw [ixn24 (fun _ => hy.ptr (by omega)) hlt3]
      refine ld_rule agg33 sz33 (hy.gr gw6) (show m < gm.rules.length by omega) fun v hv => ?_
      obtain ⟨Z', d', rfl, hd', hz'⟩ := hv
      refine do_alloc_of inf33 fun b7 w7 g7 hb7 h7 => ?_
      have h46 := (h4.gr (gr_trans g5 g6))
      have n7 := h46.ne hb7
      have h47 := h46.gr g7
      refine do_store sz33 rfl (by intro u hu; simp [Value.cells] at hu; rcases hu with rfl | rfl <;> rfl) h7 (by simp [Value.cells]) fun w8 g8 s8 h8 => ?_
      have h48 := h47.put g8 n7
      have gw8 := gr_put (gr_trans gw6 g7) g8 (Nat.le_trans gw6.size hb7)
      have g58 := gr_put (gr_trans g6 g7) g8 (Nat.le_trans g6.size hb7)
      rw [ldB_agg agg33 sz33 rfl h48, ldB_agg agg33 sz33 rfl h8]
      refine l1SameRule_c (r := rul gm.rules i) (q := rul gm.rules m) (F := F) (E := F) ⟨Z, d, rfl, hd, hz.gr (gr_trans gw45 g58)⟩ ⟨Z', d', rfl, hd', hz'.gr (gr_put g7 g8 hb7)⟩ fun w9 g9 => ?_
      by_cases he : rul gm.rules i = rul gm.rules m
      · simp only [he, decide_true, go_sem, Nat.reduceEqDiff]
        refine k0 ?_ _ (gr_trans gw8 g9)
        have : (gm.rules.take i).any (fun q => decide (rul gm.rules i = q)) = true := any_of_rul (i := m) (by omega) (by rw [rul_take hlt3]; exact decide_eq_true he)
        simp only [goodR, this, Bool.not_true, Bool.and_false]
      · simp only [he, decide_false, go_sem, Nat.reduceEqDiff]
        rw [i64_of (by omega) (by omega)]
        refine ⟨⟨m + 1, hlt3, rfl, gr_trans g58 g9, fun l hl => ?_⟩, ?_⟩
        · rcases Nat.lt_succ_iff_lt_or_eq.1 hl with h | rfl
          · exact hpre2 l h
          · exact decide_eq_false he
        · simp only [intOf]
          omega
    · simp only [show ¬ (m : Int) < i from by omega, decide_false, go_sem, Nat.reduceEqDiff]
      rw [i64_of (by omega) (by omega)]
      refine ⟨⟨i + 1, hlt, rfl, gr_trans (gr_trans g2 gw45) g6, fun l hl => ?_⟩, ?_⟩
      · rcases Nat.lt_succ_iff_lt_or_eq.1 hl with h | rfl
        · exact hpre l h
        · have : (gm.rules.take l).any (fun q => decide (rul gm.rules l = q)) = false := any_none_rul fun m' hm' => by
            rw [rul_take (by omega)]
            exact hpre2 m' (by omega)
          simp only [goodR, hr, h5, hall, this, decide_true, Bool.not_false, Bool.and_self]
      · simp only [intOf]
        omega
  · simp only [show ¬ (i : Int) < gm.rules.length from by omega, decide_false, go_sem, Nat.reduceEqDiff]
    have := hk _ (gr_trans g1 g2)
    rwa [show goodG gm = true from by simp only [goodG, hn, ht, hl, decide_true, Bool.true_and]; exact range_all fun j hj => hpre j (by omega)] at this
end Go.Proofs.Ytegcjkhebecgbaa

/- Contracts: the program's own check of a grammar. -/
set_option linter.unusedVariables false
set_option linter.unusedSimpArgs false
set_option maxRecDepth 100000
namespace Go.Proofs.Ytegcjkhebecgbaa
open Go Go.Sh Go.RowKit

/-- A function value that tells of a rule, in whatever world has grown. -/
def PredR (t : Nat) (fv : Value) (p : RuleL → Bool) (w : World) : Prop := ∀ w1, Gr w w1 → ∀ (E : Nat → Prop) (v : Value) (r : RuleL), RuleV E w1 v r → ∀ (k : Value → World → Prop), (∀ w2, Gr w1 w2 → k (.bool (p r)) w2) → Do Try.prog (sCallV fv [v] t) k w1
theorem indexFuncR_c {F : Nat → Prop} {w : World} {X : Option Addr} {c : Nat} {rs : List RuleL} {fv : Value} {p : RuleL → Bool} (hx : RulesF F w X rs) (hp : PredR 4 fv p w) {k : Value → World → Prop}
    (hk : ∀ (r : Int) w', Gr w w' → decide (0 ≤ r) = rs.any p → k (.int .i64 r) w') :
    CallK Try.prog 305 [.slice X rs.length c, fv] k w := by
  refine enter305 ?_
  unfold S305
  simp only [go_sem, Nat.reduceEqDiff]
  refine ⟨fun f w' => ∃ i : Nat, i ≤ rs.length ∧ f 8 = .int .i64 i ∧ Gr w w' ∧ ∀ j, j < i → p (rul rs j) = false, fun f _ => rs.length - (intOf (f 8)).toNat, ⟨0, Nat.zero_le _, rfl, Gr.refl w, fun j hj => absurd hj (Nat.not_lt_zero j)⟩, ?_⟩
  rintro f w1 hag ⟨i, hi, h8, hg, hpre⟩
  have f0 : f 0 = .slice X rs.length c := hag 0 (by decide)
  have f1 : f 1 = fv := hag 1 (by decide)
  have f7 : f 7 = .int .i64 rs.length := hag 7 (by decide)
  simp only [f0, f1, f7, h8, go_sem, Nat.reduceEqDiff]
  by_cases hlt : i < rs.length
  · have hlt' : (i : Int) < rs.length := by omega
    have := hx.le
    simp only [hlt', decide_true, go_sem, Nat.reduceEqDiff]
    rw [ixn24 hx.ptr hlt]
    refine ld_rule agg33 sz33 (hx.gr hg) hlt fun v hv => ?_
    refine hp w1 hg _ _ _ hv _ fun w2 g2 => ?_
    have g2' := gr_trans hg g2
    cases hb : p (rul rs i)
    · simp only [go_sem, Nat.reduceEqDiff]
      rw [i64_of (by omega) (by omega)]
      refine ⟨⟨i + 1, hlt, rfl, g2', fun j hj => ?_⟩, ?_⟩
      · rcases Nat.lt_succ_iff_lt_or_eq.1 hj with h | rfl
        · exact hpre j h
        · exact hb
      · simp only [intOf]
        omega
    · simp only [go_sem, Nat.reduceEqDiff]
      refine hk i w2 g2' ?_
      rw [decide_eq_true (by omega), any_of_rul hlt hb]
  · simp only [show ¬ (i : Int) < rs.length from by omega, decide_false, go_sem, Nat.reduceEqDiff]
    refine hk (-1) w1 hg ?_
    rw [decide_eq_false (by decide), any_none_rul fun j hj => hpre j (by omega)]
theorem containsFuncR_c {F : Nat → Prop} {w : World} {X : Option Addr} {c : Nat} {rs : List RuleL} {fv : Value} {p : RuleL → Bool} (hx : RulesF F w X rs) (hp : PredR 4 fv p w) {k : Value → World → Prop}
    (hk : ∀ w', Gr w w' → k (.bool (rs.any p)) w') : CallK Try.prog 248 [.slice X rs.length c, fv] k w := by
  refine enter248 ?_
  unfold S248
  refine indexFuncR_c hx hp fun r w' g h => ?_
  simp only [go_sem, Nat.reduceEqDiff]
  rw [h]
  exact hk w' g
theorem isSymbol_c {w : World} {s n t : Int} (hn : inB n 1 6 = true) (ht : inB t 1 4 = true) {k : Value → World → Prop} (hk : k (.bool (symB n t s)) w) : CallK Try.prog 253 [.int .i64 s, .int .i64 n, .int .i64 t] k w := by
  have hn' : 1 ≤ n ∧ n ≤ 6 := by simpa [inB] using hn
  have ht' : 1 ≤ t ∧ t ≤ 4 := by simpa [inB] using ht
  refine enter253 ?_
  unfold S253
  simp only [go_sem, Nat.reduceEqDiff]
  rw [i64_of (by omega) (by omega), i64_of (by omega) (by omega)]
  exact in_c hk
theorem areSymbols1_c {w : World} {b b' e e' : Nat} {s n t : Int} (hB : Box w b [.int .i64 n] e) (hB' : Box w b' [.int .i64 t] e') (hn : inB n 1 6 = true) (ht : inB t 1 4 = true) {k : Value → World → Prop} (hk : k (.bool (!symB n t s)) w) :
    CallK Try.prog 252 [.int .i64 s, .pointer (some ⟨b, 0, none⟩), .pointer (some ⟨b', 0, none⟩)] k w := by
  refine enter252 ?_
  unfold S252
  rw [ldB3 hB rfl, ldB3 hB' rfl]
  refine isSymbol_c hn ht ?_
  simp only [go_sem, Nat.reduceEqDiff]
  exact hk
theorem areSymbols_c {w : World} {X : Option Addr} {c : Nat} {xs : List Int} {n t : Int} (hx : Ints w X xs) (hn : inB n 1 6 = true) (ht : inB t 1 4 = true) {k : Value → World → Prop} (hk : ∀ w', Gr w w' → k (.bool (xs.all (symB n t))) w') :
    CallK Try.prog 154 [.slice X xs.length c, .int .i64 n, .int .i64 t] k w := by
  refine enter154 ?_
  unfold S154
  refine do_box fun b w1 g1 hb1 hB => ?_
  refine do_box fun b' w2 g2 hb2 hB' => ?_
  have hB := hB.gr g2
  simp only [go_sem, Nat.reduceEqDiff]
  have hp : Pred 4 (.func (.func 252) [].toArray [.pointer (some ⟨b, 0, none⟩), .pointer (some ⟨b', 0, none⟩)].toArray) (fun x => !symB n t x) w2 := fun w3 g3 x k hk =>
    callVc (areSymbols1_c (hB.gr g3) (hB'.gr g3) hn ht (hk w3 (Gr.refl w3)))
  refine containsFunc_c (hx.gr (gr_trans g1 g2)) hp fun w3 g3 => ?_
  simp only [go_sem, Nat.reduceEqDiff]
  have := hk w3 (gr_trans (gr_trans g1 g2) g3)
  rwa [show xs.all (symB n t) = !xs.any (fun x => !symB n t x) from by simp [List.not_any_eq_all_not]] at this
theorem slicesEqual_c {w : World} {X Y : Option Addr} {c d : Nat} {xs ys : List Int} (hx : Ints w X xs) (hy : Ints w Y ys) {k : Value → World → Prop} (hk : ∀ w', Gr w w' → k (.bool (decide (xs = ys))) w') :
    CallK Try.prog 180 [.slice X xs.length c, .slice Y ys.length d] k w := by
  refine enter180 ?_
  unfold S180
  simp only [go_sem, Nat.reduceEqDiff]
  by_cases hl : xs.length = ys.length
  rotate_left
  · simp only [Int.ofNat_inj, hl, decide_false, Bool.not_false, go_sem, Nat.reduceEqDiff]
    have := hk _ (Gr.refl w)
    rwa [decide_eq_false (fun e => hl (by rw [e]))] at this
  simp only [Int.ofNat_inj, hl, decide_true, Bool.not_true, go_sem, Nat.reduceEqDiff]
  rw [← hl]
  refine ⟨fun f w' => ∃ i : Nat, i ≤ xs.length ∧ f 13 = .int .i64 i ∧ Gr w w' ∧ xs.take i = ys.take i, fun f _ => xs.length - (intOf (f 13)).toNat, ⟨0, Nat.zero_le _, rfl, Gr.refl w, rfl⟩, ?_⟩
  rintro f w1 hag ⟨i, hi, h13, hg, hpre⟩
  have h0 : f 0 = .slice X xs.length c := hag 0 (by decide)
  have h1 : f 1 = .slice Y xs.length d := hag 1 (by decide)
  have h12 : f 12 = .int .i64 xs.length := hag 12 (by decide)
  simp only [h0, h1, h12, h13, go_sem, Nat.reduceEqDiff]
  by_cases hlt : i < xs.length
  · have hlt' : (i : Int) < xs.length := by omega
    have := hx.le
    simp only [hlt', decide_true, go_sem, Nat.reduceEqDiff]
    rw [ixn27 hx.ptr hlt, ld3 ((hx.gr (gr_trans hg (gr_drew w1))).cell i hlt), ixn27 (hl ▸ hy.ptr) hlt, ld3 ((hy.gr (gr_trans hg (gr_drew w1))).cell i (by omega))]
    simp only [go_sem, Nat.reduceEqDiff]
    by_cases he : xs.getD i 0 = ys.getD i 0
    · simp only [he, decide_true, Bool.not_true, go_sem, Nat.reduceEqDiff]
      rw [i64_of (by omega) (by omega)]
      refine ⟨⟨i + 1, hlt, rfl, gr_trans hg (gr_drew w1), ?_⟩, ?_⟩
      · rw [take_snoc hlt, take_snoc (by omega), hpre, he]
      · simp only [intOf]
        omega
    · simp only [he, decide_false, Bool.not_false, go_sem, Nat.reduceEqDiff]
      have := hk _ (gr_trans hg (gr_drew w1))
      rwa [decide_eq_false (fun e => he (by rw [e]))] at this
  · simp only [show ¬ (i : Int) < xs.length from by omega, decide_false, go_sem, Nat.reduceEqDiff]
    have := hk _ hg
    rwa [decide_eq_true] at this
    rwa [List.take_of_length_le (by omega), List.take_of_length_le (by omega)] at hpre
theorem sameRule_c {F E : Nat → Prop} {w : World} {v u : Value} {r q : RuleL} (hv : RuleV F w v r) (hu : RuleV E w u q) {k : Value → World → Prop} (hk : ∀ w', Gr w w' → k (.bool (decide (r = q))) w') :
    CallK Try.prog 242 [v, u] k w := by
  obtain ⟨Y, c, rfl, hc, hy⟩ := hv
  obtain ⟨Z, d, rfl, hd, hz⟩ := hu
  refine enter242 ?_
  unfold S242
  refine do_box fun b w1 g1 hb1 hb => ?_
  refine do_box fun b' w2 g2 hb2 hb' => ?_
  have hb := hb.gr g2
  have g := gr_trans g1 g2
  simp only [go_sem, Nat.reduceEqDiff]
  rw [ldB3 hb rfl, ldB3 hb' rfl]
  simp only [go_sem, Nat.reduceEqDiff]
  by_cases h : r.1 = q.1
  · simp only [h, decide_true, go_sem, Nat.reduceEqDiff]
    rw [ldB27 hb rfl]
    rw [ldB27 hb' rfl]
    refine slicesEqual_c (hy.is.gr g) (hz.is.gr g) fun w3 g3 => ?_
    have := hk w3 (gr_trans g g3)
    by_cases h2 : r.2 = q.2
    · simp only [h2, decide_true, go_sem, Nat.reduceEqDiff]
      rwa [decide_eq_true (Prod.ext h h2)] at this
    · simp only [h2, decide_false, go_sem, Nat.reduceEqDiff]
      rwa [decide_eq_false (fun e => h2 (by rw [e]))] at this
  · simp only [h, decide_false, go_sem, Nat.reduceEqDiff]
    have := hk w2 g
    rwa [decide_eq_false (fun e => h (by rw [e]))] at this
theorem isGrammar1_c {E F : Nat → Prop} {w : World} {v : Value} {q r : RuleL} {Z : Option Addr} {b d e : Nat} (hv : RuleV E w v q) (hB : Box w b [.int .i64 r.1, .slice Z r.2.length d] e) (hz : IntsF F w Z r.2) (hd : r.2.length ≤ d) {k : Value → World → Prop} (hk : ∀ w', Gr w w' → k (.bool (decide (q = r))) w') :
    CallK Try.prog 249 ([v] ++ [.pointer (some ⟨b, 0, none⟩)]) k w := by
  refine enter249 ?_
  unfold S249
  obtain ⟨Y, c, rfl, hc, hy⟩ := hv
  refine do_box fun b1 w1 g1 hb1 hB1 => ?_
  rw [ldB_agg agg33 sz33 rfl hB1, ldB_agg agg33 sz33 rfl (hB.gr g1)]
  exact sameRule_c (r := q) (q := r) ⟨Y, c, rfl, hc, hy.gr g1⟩ ⟨Z, d, rfl, hd, hz.gr g1⟩ fun w2 g2 => hk w2 (gr_trans g1 g2)
theorem isGrammar_c {F : Nat → Prop} {w : World} {v : Value} {gm : Gram} (hv : GramV F w v gm) {k : Value → World → Prop} (hk : ∀ w', Gr w w' → k (.bool (goodG gm)) w') :
    CallK Try.prog 148 [v] k w := by
  have hv0 := hv
  obtain ⟨Y, c, rfl, hc, hy⟩ := hv
  refine enter148 ?_
  unfold S148
  refine do_box fun b w1 g1 hb1 hB => ?_
  simp only [go_sem, Nat.reduceEqDiff]
  rw [ldB3 hB rfl]
  refine in_c ?_
  cases hn : inB gm.nons 1 6
  · simp only [Bool.not_false, go_sem, Nat.reduceEqDiff]
    have := hk _ g1
    rwa [show goodG gm = false from by simp [goodG, hn]] at this
  simp only [Bool.not_true, go_sem, Nat.reduceEqDiff]
  rw [ldB3 hB rfl]
  refine in_c ?_
  cases ht : inB gm.toks 1 4
  · simp only [Bool.not_false, go_sem, Nat.reduceEqDiff]
    have := hk _ g1
    rwa [show goodG gm = false from by simp [goodG, ht]] at this
  simp only [Bool.not_true, go_sem, Nat.reduceEqDiff]
  rw [ldB24 hB rfl]
  simp only [go_sem, Nat.reduceEqDiff]
  by_cases hl : gm.rules.length ≤ 16
  rotate_left
  · simp only [show (16 : Int) < gm.rules.length from by omega, decide_true, go_sem, Nat.reduceEqDiff]
    have := hk _ g1
    rwa [show goodG gm = false from by simp [goodG, hl]] at this
  simp only [show ¬ (16 : Int) < gm.rules.length from by omega, decide_false, go_sem, Nat.reduceEqDiff]
  rw [ldB24 hB rfl]
  simp only [go_sem, Nat.reduceEqDiff]
  have hn' : 1 ≤ gm.nons ∧ gm.nons ≤ 6 := by simpa [inB] using hn
  have ht' : 1 ≤ gm.toks ∧ gm.toks ≤ 4 := by simpa [inB] using ht
  refine ⟨fun f w' => ∃ i : Nat, i ≤ gm.rules.length ∧ f 24 = .int .i64 i ∧ Gr w1 w' ∧ ∀ j, j < i → goodR gm.nons gm.toks gm.rules j = true, fun f _ => gm.rules.length - (intOf (f 24)).toNat, ⟨0, Nat.zero_le _, rfl, Gr.refl w1, fun j hj => absurd hj (Nat.not_lt_zero j)⟩, ?_⟩
  rintro f w2 hag ⟨i, hi, h28, g2, hpre⟩
  have f1 : f 1 = .pointer (some ⟨b, 0, none⟩) := hag 1 (by decide)
  have f26 : f 22 = .slice Y gm.rules.length c := hag 22 (by decide)
  have f27 : f 23 = .int .i64 gm.rules.length := hag 23 (by decide)
  simp only [f1, f26, f27, h28, go_sem, Nat.reduceEqDiff]
  by_cases hlt : i < gm.rules.length
  · have hlt' : (i : Int) < gm.rules.length := by omega
    simp only [hlt', decide_true, go_sem, Nat.reduceEqDiff]
    have g := gr_trans g1 g2
    rw [ixn24 hy.ptr hlt]
    refine ld_rule agg33 sz33 (hy.gr g) hlt fun v hv => ?_
    obtain ⟨Z, d, rfl, hd, hz⟩ := hv
    refine do_alloc_of inf33 fun b3 w3 g3 hb3 h3 => ?_
    have n3 := (hB.gr g2).ne hb3
    refine do_store sz33 rfl (by intro u hu; simp [Value.cells] at hu; rcases hu with rfl | rfl <;> rfl) h3 (by simp [Value.cells]) fun w4 g4 s4 h4 => ?_
    have hB2 := (hB.gr (gr_trans g2 g3)).put g4 n3
    have g' := gr_put (gr_trans g g3) g4 (Nat.le_trans g.size hb3)
    have k0 : goodR gm.nons gm.toks gm.rules i = false → ∀ w', Gr w w' → k (.bool false) w' := fun h w' gw => by
      have := hk w' gw
      rwa [show goodG gm = false from by simp only [goodG, range_not hlt h, Bool.and_false]] at this
    simp only [go_sem, Nat.reduceEqDiff]
    rw [ldB3 h4 rfl, ldB3 hB2 rfl]
    simp only [go_sem, Nat.reduceEqDiff]
    rw [i64_of (by omega) (by omega)]
    refine in_c ?_
    cases hr : inB (rul gm.rules i).1 0 (gm.nons - 1)
    · simp only [Bool.not_false, go_sem, Nat.reduceEqDiff]
      exact k0 (by simp [goodR, hr]) _ g'
    simp only [Bool.not_true, go_sem, Nat.reduceEqDiff]
    rw [ldB27 h4 rfl]
    simp only [go_sem, Nat.reduceEqDiff]
    by_cases h5 : (rul gm.rules i).2.length ≤ 4
    rotate_left
    · simp only [show (4 : Int) < (rul gm.rules i).2.length from by omega, decide_true, go_sem, Nat.reduceEqDiff]
      exact k0 (by simp [goodR, h5]) _ g'
    simp only [show ¬ (4 : Int) < (rul gm.rules i).2.length from by omega, decide_false, go_sem, Nat.reduceEqDiff]
    rw [ldB27 h4 rfl]
    rw [ldB3 hB2 rfl]
    rw [ldB3 hB2 rfl]
    have g24 := gr_put g3 g4 hb3
    refine areSymbols_c (hz.is.gr g24) hn ht fun w5 g5 => ?_
    simp only [go_sem, Nat.reduceEqDiff]
    cases hs : (rul gm.rules i).2.all (symB gm.nons gm.toks)
    · simp only [Bool.not_false, go_sem, Nat.reduceEqDiff]
      exact k0 (by simp only [goodR, hs, Bool.and_false, Bool.false_and]) _ (gr_trans g' g5)
    simp only [Bool.not_true, go_sem, Nat.reduceEqDiff]
    have gw5 := gr_trans g' g5
    rw [ldB24 (hB2.gr g5) rfl]
    rw [slh24 (by omega) (by omega), sub_zero]
    simp only [Int.toNat_natCast, go_sem, Nat.reduceEqDiff]
    have hti : (gm.rules.take i).length = i := by simp; omega
    have hyt : RulesF F w5 Y (gm.rules.take i) := (hy.gr gw5).take i
    have hp : PredR 4 (.func (.func 249) [].toArray [.pointer (some ⟨b3, 0, none⟩)].toArray) (fun q => decide (q = rul gm.rules i)) w5 := fun w6 g6 E v q hv k hk =>
      callVc (isGrammar1_c hv (h4.gr (gr_trans g5 g6)) (hz.gr (gr_trans g24 (gr_trans g5 g6))) hd hk)
    have hcf := containsFuncR_c (c := c) hyt hp (k := ?k)
    rw [hti] at hcf
    refine hcf ?_
    intro w6 g6
    have e : (gm.rules.take i).any (fun q => decide (q = rul gm.rules i)) = (gm.rules.take i).any (fun q => decide (rul gm.rules i = q)) := by
      congr 1
      funext q
      exact decide_eq_decide.2 ⟨fun h => h.symm, fun h => h.symm⟩
    rw [e]
    cases ha : (gm.rules.take i).any (fun q => decide (rul gm.rules i = q))
    · simp only [go_sem, Nat.reduceEqDiff]
      have d28 : f 24 = .int .i64 i := h28
      rw [i64_of (by omega) (by omega)]
      refine ⟨⟨i + 1, hlt, rfl, gr_trans (gr_trans g2 g24) (gr_trans g5 g6), fun l hl => ?_⟩, ?_⟩
      · rcases Nat.lt_succ_iff_lt_or_eq.1 hl with h | rfl
        · exact hpre l h
        · simp only [goodR, hr, h5, hs, ha, decide_true, Bool.not_false, Bool.and_self]
      · simp only [intOf]
        omega
    · simp only [go_sem, Nat.reduceEqDiff]
      exact k0 (by simp only [goodR, ha, Bool.not_true, Bool.and_false]) _ (gr_trans gw5 g6)
  · simp only [show ¬ (i : Int) < gm.rules.length from by omega, decide_false, go_sem, Nat.reduceEqDiff]
    have := hk _ (gr_trans g1 g2)
    rwa [show goodG gm = true from by simp only [goodG, hn, ht, hl, decide_true, Bool.true_and]; exact range_all fun j hj => hpre j (by omega)] at this
end Go.Proofs.Ytegcjkhebecgbaa

/- Contract: rules moved on (the reference's l20Shift). -/
set_option linter.unusedVariables false
set_option linter.unusedSimpArgs false
set_option maxRecDepth 100000
namespace Go.Sh
open Go
end Go.Sh
namespace Go.Proofs.Ytegcjkhebecgbaa
open Go Go.Sh Go.RowKit

end Go.Proofs.Ytegcjkhebecgbaa

/- Contract: a grammar made of grammars (the reference's l20Made). -/
set_option linter.unusedVariables false
set_option linter.unusedSimpArgs false
set_option maxRecDepth 100000
namespace Go.Sh
open Go
def gmn (gs : List Gram) (j : Nat) : Gram := gs.getD j ⟨0, 0, []⟩
/-- A slice of grammars that is read; it lies in F. -/
structure GramsF (F : Nat → Prop) (w : World) (X : Option Addr) (gs : List Gram) : Prop where
  le : gs.length ≤ 9223372036854775807
  ptr : 0 < gs.length → X = some (ad X)
  foot : 0 < gs.length → F (ad X).block
  row : ∀ j, j < gs.length → ∃ Y c, w.cell? ((ad X).add (j * 3)) = some (.int .i64 (gmn gs j).nons) ∧ w.cell? ((ad X).add (j * 3 + 1)) = some (.int .i64 (gmn gs j).toks) ∧ w.cell? ((ad X).add (j * 3 + 2)) = some (.slice Y (gmn gs j).rules.length c) ∧ (gmn gs j).rules.length ≤ c ∧ RulesF F w Y (gmn gs j).rules
theorem GramsF.gx {F D : Nat → Prop} {w w' : World} {X : Option Addr} {gs : List Gram} (h : GramsF F w X gs) (g : Gx D w w') (hn : ∀ b, F b → ¬ D b) : GramsF F w' X gs := by
  refine ⟨h.le, h.ptr, h.foot, fun j hj => ?_⟩
  obtain ⟨Y, c, h1, h2, h3, h4, h5⟩ := h.row j hj
  have hf := hn _ (h.foot (by omega))
  exact ⟨Y, c, g.cell h1 (by rw [add_block]; exact hf), g.cell h2 (by rw [add_block]; exact hf), g.cell h3 (by rw [add_block]; exact hf), h4, h5.gx g hn⟩
theorem good_len {g : Gram} (hg : goodG g = true) : g.rules.length ≤ 16 := by
  simp only [goodG, Bool.and_eq_true, decide_eq_true_eq] at hg
  exact hg.1.2
/-- Where a block that is old comes from. -/
def From (w : World) (X0 X : Option Addr) : Prop := ∀ q, blk X = some q → q < w.heap.size → blk X0 = some q
theorem From.moved {w w2 : World} {X0 X X' : Option Addr} (h : From w X0 X) (hm : Moved w2 X X') (hs : w.heap.size ≤ w2.heap.size) : From w X0 X' := by
  intro q hq hlt
  rcases hm with e | e
  · exact h q (e ▸ hq) hlt
  · have := e q hq
    omega
abbrev zeroGram : Value := .agg #[.int .i64 0, .int .i64 0, .slice none 0 0]
end Go.Sh
namespace Go.Proofs.Ytegcjkhebecgbaa
open Go Go.Sh Go.RowKit

end Go.Proofs.Ytegcjkhebecgbaa

/- Contract: what comes again and again, by the reference. -/
set_option linter.unusedVariables false
set_option linter.unusedSimpArgs false
set_option maxRecDepth 100000
namespace Go.Sh
open Go
/-- A grammar that may not be there, of the call's own. -/
def GramR (w : World) (B : Nat) (v : Value) : Option Gram → Prop
  | some m => GramO w B v m
  | none => v = zeroGram
theorem GramR.put {w w' : World} {B b t : Nat} {v : Value} {o : Option Gram} {cs : List Value} (h : GramR w B v o) (hb : Box w b cs t) (h1 : 33 ≠ t) (h2 : 3 ≠ t) (g : w.grownBy w' (some b)) : GramR w' B v o := by
  cases o with
  | none => exact h
  | some m =>
    obtain ⟨X, c, ps, e, ho⟩ := h
    exact ⟨X, c, ps, e, ho.put hb h1 h2 g⟩
theorem GramR.three {w : World} {B : Nat} {v : Value} {o : Option Gram} (h : GramR w B v o) : ∃ x y z, v = .agg #[x, y, z] ∧ x.oneCell' = true ∧ y.oneCell' = true ∧ z.oneCell' = true := by
  cases o with
  | none => exact ⟨_, _, _, h, rfl, rfl, rfl⟩
  | some m =>
    obtain ⟨X, c, ps, e, ho⟩ := h
    exact ⟨_, _, _, e, rfl, rfl, rfl⟩
end Go.Sh
namespace Go.Proofs.Ytegcjkhebecgbaa
open Go Go.Sh Go.RowKit

end Go.Proofs.Ytegcjkhebecgbaa

/- Contract: a copy of a grammar by the program. -/
set_option linter.unusedVariables false
set_option linter.unusedSimpArgs false
set_option maxRecDepth 100000
namespace Go.Sh
open Go
theorem good_rule {g : Gram} (hg : goodG g = true) : ∀ i, i < g.rules.length → (rul g.rules i).2.length ≤ 4 := fun i hi => by
  simp only [goodG, Bool.and_eq_true, List.all_eq_true] at hg
  have := hg.2 i (List.mem_range.2 hi)
  simp only [goodR, Bool.and_eq_true, decide_eq_true_eq] at this
  exact this.1.1.2
end Go.Sh
namespace Go.Proofs.Ytegcjkhebecgbaa
open Go Go.Sh Go.RowKit

end Go.Proofs.Ytegcjkhebecgbaa

/- Contract: grammars set beside each other by the program. -/
set_option linter.unusedVariables false
set_option linter.unusedSimpArgs false
set_option maxRecDepth 100000
namespace Go.Sh
open Go
def rgt (rl : List (List Int)) (j : Nat) : List Int := rl.getD j []
/-- A slice of slices of ints that is read. -/
structure Intss (w : World) (X : Option Addr) (rl : List (List Int)) : Prop where
  le : rl.length ≤ 9223372036854775807
  ptr : 0 < rl.length → X = some (ad X)
  row : ∀ j, j < rl.length → ∃ Y c, w.cell? ((ad X).add j) = some (.slice Y (rgt rl j).length c) ∧ (rgt rl j).length ≤ c ∧ Ints w Y (rgt rl j)
theorem Intss.gr {w w' : World} {X : Option Addr} {rl : List (List Int)} (h : Intss w X rl) (g : Gr w w') : Intss w' X rl := ⟨h.le, h.ptr, fun j hj => by
  obtain ⟨Y, c, h1, h2, h3⟩ := h.row j hj
  exact ⟨Y, c, g.cell h1, h2, h3.gr g⟩⟩
def firsts (rl : List (List Int)) : List RuleL := rl.map fun r => (0, r)
theorem OwnR.congr {e1 e2 : Nat} {w : World} {B c : Nat} {X : Option Addr} {rs : List RuleL} {ps qs : Nat → Option Addr × Nat} (h : OwnR e1 e2 w B X c rs ps) (he : ∀ j, j < rs.length → qs j = ps j) : OwnR e1 e2 w B X c rs qs := by
  obtain ⟨⟨cells, hr, hc⟩, ho, ht⟩ := h
  refine ⟨⟨cells, hr, fun j hj => by rw [he j hj]; exact hc j hj⟩, fun j hj => by rw [he j hj]; exact ho j hj, fun i j hi hj hij => ?_⟩
  rw [he i hi, he j hj]
  exact ht i j hi hj hij
theorem blk_sym {U V : Option Addr} (h : blk U = none ∨ blk U ≠ blk V) : blk V = none ∨ blk V ≠ blk U := by
  cases hq : blk V with
  | none => exact .inl rfl
  | some q =>
    refine .inr fun e => ?_
    rcases h with h | h
    · rw [h] at e; cases e
    · exact h (by rw [hq, e])
end Go.Sh
namespace Go.Proofs.Ytegcjkhebecgbaa
open Go Go.Sh Go.RowKit

end Go.Proofs.Ytegcjkhebecgbaa

/- Slices of slices of numbers that are owned, among things that lie apart. -/
set_option linter.unusedVariables false
set_option linter.unusedSimpArgs false
set_option maxRecDepth 100000
namespace Go.Sh
open Go
/-- Nothing. -/
def emp : Thing := ⟨fun _ => True, fun _ => False⟩
/-- Two things become one. -/
theorem Apt.join {w0 w w' : World} {L : List Thing} (H : Apt w0 w L) {i j : Nat} {a b it : Thing} (hij : i ≠ j) (hi : L[i]? = some a) (hj : L[j]? = some b) (g : Gx (fun q => a.ft q ∨ b.ft q) w w') (lo : ∀ q, it.ft q → a.ft q ∨ b.ft q ∨ w.heap.size ≤ q) (hh : ∀ q, it.ft q → q < w'.heap.size)
    (kept : ∀ w'', (∀ q, it.ft q → w''.heap[q]? = w'.heap[q]?) → it.P w'') : Apt w0 w' ((L.set i it).set j emp) := by
  have ha := H.ok i a hi
  have hb := H.ok j b hj
  have hsz := H.gr.size
  have sub : ∀ l x, ((L.set i it).set j emp)[l]? = some x → (l = j ∧ x = emp) ∨ (l = i ∧ l ≠ j ∧ x = it) ∨ (l ≠ i ∧ l ≠ j ∧ L[l]? = some x) := fun l x hx => by
    rcases get_set hx with h | ⟨h1, h2⟩
    · exact .inl h
    · rcases get_set h2 with ⟨h3, h4⟩ | ⟨h3, h4⟩
      · exact .inr (.inl ⟨h3, h1, h4⟩)
      · exact .inr (.inr ⟨h3, h1, h4⟩)
  refine ⟨Gx.gr_after H.gr g fun q hq => hq.elim (ha.lo q) (hb.lo q), fun l x hx => ?_, fun l m x y hlm hx hy q hq hq' => ?_⟩
  · rcases sub l x hx with ⟨_, rfl⟩ | ⟨_, _, rfl⟩ | ⟨h1, h2, h3⟩
    · exact ⟨fun q hq => hq.elim, fun q hq => hq.elim, fun _ _ => trivial⟩
    · refine ⟨fun q hq => ?_, hh, kept⟩
      rcases lo q hq with h | h | h
      · exact ha.lo q h
      · exact hb.lo q h
      · omega
    · have := H.ok l x h3
      exact this.step g.size fun q hq => g.block q (this.hi q hq) fun hq' => hq'.elim (H.two l i x a h1 h3 hi q hq) (H.two l j x b h2 h3 hj q hq)
  · rcases sub l x hx with ⟨_, rfl⟩ | ⟨hli, _, rfl⟩ | ⟨h1, h2, h3⟩
    · exact hq
    · rcases sub m y hy with ⟨_, rfl⟩ | ⟨hmi, _, rfl⟩ | ⟨g1, g2, g3⟩
      · exact hq'
      · exact hlm (hli.trans hmi.symm)
      · rcases lo q hq with h | h | h
        · exact H.two i m a y (fun e => g1 e.symm) hi g3 q h hq'
        · exact H.two j m b y (fun e => g2 e.symm) hj g3 q h hq'
        · have := (H.ok m y g3).hi q hq'
          omega
    · rcases sub m y hy with ⟨_, rfl⟩ | ⟨hmi, _, rfl⟩ | ⟨g1, g2, g3⟩
      · exact hq'
      · rcases lo q hq' with h | h | h
        · exact H.two l i x a h1 h3 hi q hq h
        · exact H.two l j x b h2 h3 hj q hq h
        · have := (H.ok l x h3).hi q hq
          omega
      · exact H.two l m x y hlm h3 g3 q hq hq'
/-- Slices of numbers of the call's own: the row, and a slice of its own for each. -/
structure OwnSS (e1 e2 : Nat) (w : World) (B : Nat) (X : Option Addr) (c : Nat) (ls : List (List Int)) (ps : Nat → Option Addr × Nat) : Prop where
  row : ∃ cells, Row w B e1 1 X ls.length c cells ∧ ∀ j, j < ls.length → cells[j]? = some (.slice (ps j).1 (rgt ls j).length (ps j).2)
  own : ∀ j, j < ls.length → Own e2 w B (ps j).1 (ps j).2 (rgt ls j)
  two : ∀ i j, i < ls.length → j < ls.length → i ≠ j → blk (ps i).1 = none ∨ blk (ps i).1 ≠ blk (ps j).1
theorem OwnSS.same {e1 e2 : Nat} {w w' : World} {B : Nat} {X : Option Addr} {c : Nat} {ls : List (List Int)} {ps : Nat → Option Addr × Nat} (h : OwnSS e1 e2 w B X c ls ps) (hs : ∀ q, Foot X ps ls.length q → w'.heap[q]? = w.heap[q]?) : OwnSS e1 e2 w' B X c ls ps := by
  obtain ⟨⟨cells, hr, hc⟩, ho, ht⟩ := h
  exact ⟨⟨cells, hr.same fun q hq => hs q (.inl hq), hc⟩, fun j hj => Row.same (ho j hj) fun q hq => hs q (.inr ⟨j, hj, hq⟩), ht⟩
theorem OwnSS.up {e1 e2 : Nat} {w : World} {B B' : Nat} {X : Option Addr} {c : Nat} {ls : List (List Int)} {ps : Nat → Option Addr × Nat} (h : OwnSS e1 e2 w B X c ls ps) (hs : ∀ q, Foot X ps ls.length q → B' ≤ q) : OwnSS e1 e2 w B' X c ls ps := by
  obtain ⟨⟨cells, hr, hc⟩, ho, ht⟩ := h
  exact ⟨⟨cells, hr.up fun q hq => hs q (.inl hq), hc⟩, fun j hj => Row.up (ho j hj) fun q hq => hs q (.inr ⟨j, hj, hq⟩), ht⟩
theorem OwnSS.mono {e1 e2 : Nat} {w : World} {B B' : Nat} {X : Option Addr} {c : Nat} {ls : List (List Int)} {ps : Nat → Option Addr × Nat} (h : OwnSS e1 e2 w B X c ls ps) (hb : B' ≤ B) : OwnSS e1 e2 w B' X c ls ps := by
  obtain ⟨⟨cells, hr, hc⟩, ho, ht⟩ := h
  exact ⟨⟨cells, Row.mono hr hb, hc⟩, fun j hj => Row.mono (ho j hj) hb, ht⟩
theorem OwnSS.foot {e1 e2 : Nat} {w : World} {B c : Nat} {X : Option Addr} {ls : List (List Int)} {ps : Nat → Option Addr × Nat} (h : OwnSS e1 e2 w B X c ls ps) {q : Nat} (hq : Foot X ps ls.length q) : B ≤ q ∧ q < w.heap.size := by
  obtain ⟨⟨cells, hr, hc⟩, ho, ht⟩ := h
  rcases hq with hq | ⟨l, hl, hq⟩
  · exact hr.ge hq
  · exact Row.ge (ho l hl) hq
theorem OwnSS.gr {e1 e2 : Nat} {w w' : World} {B : Nat} {X : Option Addr} {c : Nat} {ls : List (List Int)} {ps : Nat → Option Addr × Nat} (h : OwnSS e1 e2 w B X c ls ps) (g : Gr w w') : OwnSS e1 e2 w' B X c ls ps := h.same fun q hq => g.block q (h.foot hq).2 (by simp)
theorem OwnSS.read {e1 e2 : Nat} {w : World} {B : Nat} {X : Option Addr} {c : Nat} {ls : List (List Int)} {ps : Nat → Option Addr × Nat} (h : OwnSS e1 e2 w B X c ls ps) : Intss w X ls := by
  obtain ⟨⟨cells, hr, hc⟩, ho, ht⟩ := h
  have hcap := hr.cap
  refine ⟨by omega, fun hp => hr.ptr hp, fun j hj => ?_⟩
  have hc' := Row.cap (ho j hj)
  exact ⟨(ps j).1, (ps j).2, hr.src.cell _ _ (hc j hj), by omega, Own.ints (ho j hj)⟩
def lssi (e1 e2 : Nat) (X : Option Addr) (c : Nat) (ls : List (List Int)) (ps : Nat → Option Addr × Nat) : Thing := ⟨fun w => OwnSS e1 e2 w 0 X c ls ps, Foot X ps ls.length⟩
theorem lssi_kept {w : World} {B e1 e2 c : Nat} {X : Option Addr} {ls : List (List Int)} {ps : Nat → Option Addr × Nat} (h : OwnSS e1 e2 w B X c ls ps) : ∀ w', (∀ q, (lssi e1 e2 X c ls ps).ft q → w'.heap[q]? = w.heap[q]?) → (lssi e1 e2 X c ls ps).P w' := fun w' hq => (h.mono (Nat.zero_le B)).same hq
theorem Apt.lssi {w0 w : World} {L : List Thing} (H : Apt w0 w L) (i : Nat) {e1 e2 c : Nat} {X : Option Addr} {ls : List (List Int)} {ps : Nat → Option Addr × Nat} (hi : L[i]? = some (lssi e1 e2 X c ls ps)) : OwnSS e1 e2 w w0.heap.size X c ls ps := OwnSS.up (H.get i hi) (H.ok i _ hi).lo
theorem Apt.addLss {w0 w w' : World} {L : List Thing} (H : Apt w0 w L) (g : Gr w w') {e1 e2 c : Nat} {X : Option Addr} {ls : List (List Int)} {ps : Nat → Option Addr × Nat} (h : OwnSS e1 e2 w' w.heap.size X c ls ps) : Apt w0 w' (L ++ [Sh.lssi e1 e2 X c ls ps]) := H.add g _ (fun q hq => (h.foot hq).1) (fun q hq => (h.foot hq).2) (lssi_kept h)
theorem OwnSS.nil (w : World) (B e1 e2 : Nat) (ps : Nat → Option Addr × Nat) : OwnSS e1 e2 w B none 0 [] ps := ⟨⟨[], Row.nil _ _ _ _, fun j hj => by simp at hj⟩, fun j hj => by simp at hj, fun i j hi => by simp at hi⟩
theorem rgt_left {ls ms : List (List Int)} {i : Nat} (h : i < ls.length) : rgt (ls ++ ms) i = rgt ls i := by
  simp [rgt, List.getD_eq_getElem?_getD, List.getElem?_append_left h]
theorem rgt_last {ls : List (List Int)} {y : List Int} : rgt (ls ++ [y]) ls.length = y := by
  simp [rgt, List.getD_eq_getElem?_getD]
theorem rgt_eq {ls : List (List Int)} {i : Nat} (h : i < ls.length) : rgt ls i = ls[i] := by simp [rgt, List.getD_eq_getElem?_getD, h]
theorem take_snoc_rgt {ls : List (List Int)} {i : Nat} (h : i < ls.length) : ls.take (i + 1) = ls.take i ++ [rgt ls i] := by
  rw [List.take_succ_eq_append_getElem h, rgt_eq h]
/-- One more slice. -/
theorem OwnSS.push {e1 e2 : Nat} {w w' : World} {B B' c d c' : Nat} {X X' Y : Option Addr} {ls : List (List Int)} {ys : List Int} {ps : Nat → Option Addr × Nat} {cells : List Value} (h : OwnSS e1 e2 w B X c ls ps) (ho : Own e2 w B' Y d ys) (hne : ∀ l, l < ls.length → blk (ps l).1 = none ∨ blk (ps l).1 ≠ blk Y) (he : e1 ≠ e2)
    (hr0 : Row w B e1 1 X ls.length c cells) (hc : ∀ j, j < ls.length → cells[j]? = some (.slice (ps j).1 (rgt ls j).length (ps j).2)) (hr : Row w' B e1 1 X' (ls.length + 1) c' (cells ++ [.slice Y ys.length d])) (g : w.grownBy w' (blk X)) : OwnSS e1 e2 w' 0 X' c' (ls ++ [ys]) (fun i => if i = ls.length then (Y, d) else ps i) := by
  have hlen := hr0.len
  refine ⟨⟨_, by rw [List.length_append]; exact Row.mono hr (Nat.zero_le _), fun j hj => ?_⟩, fun j hj => ?_, fun i j hi hj hij => ?_⟩
  · by_cases hlt : j < ls.length
    · rw [List.getElem?_append_left (by omega), hc j hlt, rgt_left hlt, if_neg (by omega)]
    · obtain rfl : j = ls.length := by simp at hj; omega
      rw [List.getElem?_append_right (by omega), rgt_last, if_pos rfl, hlen]
      simp
  · by_cases hlt : j < ls.length
    · rw [if_neg (by omega), rgt_left hlt]
      exact Row.mono (Row.kept (h.own j hlt) g (row_ne (h.own j hlt) hr0 fun e => he e.symm)) (Nat.zero_le _)
    · obtain rfl : j = ls.length := by simp at hj; omega
      rw [if_pos rfl, rgt_last]
      exact Row.mono (Row.kept ho g (row_ne ho hr0 fun e => he e.symm)) (Nat.zero_le _)
  · rw [List.length_append] at hi hj
    simp only [List.length_cons, List.length_nil] at hi hj
    by_cases h1 : i < ls.length <;> by_cases h2 : j < ls.length
    · rw [if_neg (by omega), if_neg (by omega)]
      exact h.two i j h1 h2 hij
    · obtain rfl : j = ls.length := by omega
      rw [if_neg (by omega), if_pos rfl]
      exact hne i h1
    · obtain rfl : i = ls.length := by omega
      rw [if_pos rfl, if_neg (by omega)]
      exact blk_sym (hne j h2)
    · omega
theorem rgt_right {ls ms : List (List Int)} {i : Nat} (h : ls.length ≤ i) : rgt (ls ++ ms) i = rgt ms (i - ls.length) := by
  simp [rgt, List.getD_eq_getElem?_getD, List.getElem?_append_right h]
/-- Slices behind slices. -/
theorem OwnSS.append {e1 e2 : Nat} {w w' : World} {B B' c d c' : Nat} {X X' Y : Option Addr} {ls ms : List (List Int)} {ps qs : Nat → Option Addr × Nat} {cells news : List Value} (h : OwnSS e1 e2 w B X c ls ps) (g0 : OwnSS e1 e2 w B' Y d ms qs) (hne : ∀ l m, l < ls.length → m < ms.length → blk (ps l).1 = none ∨ blk (ps l).1 ≠ blk (qs m).1) (he : e1 ≠ e2)
    (hr0 : Row w B e1 1 X ls.length c cells) (hc : ∀ j, j < ls.length → cells[j]? = some (.slice (ps j).1 (rgt ls j).length (ps j).2)) (hnl : news.length = ms.length) (hN : ∀ j, j < ms.length → news[j]? = some (.slice (qs j).1 (rgt ms j).length (qs j).2)) (hr : Row w' B e1 1 X' (ls.length + ms.length) c' (cells ++ news)) (g : w.grownBy w' (blk X)) : OwnSS e1 e2 w' 0 X' c' (ls ++ ms) (joinP ls.length ps qs) := by
  have hlen := hr0.len
  refine ⟨⟨_, by rw [List.length_append]; exact Row.mono hr (Nat.zero_le _), fun j hj => ?_⟩, fun j hj => ?_, fun i j hi hj hij => ?_⟩
  · rw [List.length_append] at hj
    by_cases hlt : j < ls.length
    · rw [List.getElem?_append_left (by omega), hc j hlt, rgt_left hlt]
      simp only [joinP, hlt, if_true]
    · rw [List.getElem?_append_right (by omega), rgt_right (by omega)]
      simp only [joinP, hlt, if_false]
      rw [show j - cells.length = j - ls.length from by omega]
      exact hN _ (by omega)
  · rw [List.length_append] at hj
    by_cases hlt : j < ls.length
    · rw [rgt_left hlt]
      simp only [joinP, hlt, if_true]
      exact Row.mono (Row.kept (h.own j hlt) g (row_ne (h.own j hlt) hr0 fun e => he e.symm)) (Nat.zero_le _)
    · rw [rgt_right (by omega)]
      simp only [joinP, hlt, if_false]
      exact Row.mono (Row.kept (g0.own _ (by omega)) g (row_ne (g0.own _ (by omega)) hr0 fun e => he e.symm)) (Nat.zero_le _)
  · rw [List.length_append] at hi hj
    by_cases h1 : i < ls.length <;> by_cases h2 : j < ls.length <;> simp only [joinP, h1, h2, if_true, if_false]
    · exact h.two i j h1 h2 hij
    · exact hne i _ h1 (by omega)
    · exact blk_sym (hne j _ h2 (by omega))
    · exact g0.two _ _ (by omega) (by omega) (by omega)
/-- One number of one slice is written. -/
theorem OwnSS.put {e1 e2 : Nat} {w w' : World} {B c i m : Nat} {x : Int} {X : Option Addr} {ls : List (List Int)} {ps : Nat → Option Addr × Nat} (h : OwnSS e1 e2 w B X c ls ps) (he : e1 ≠ e2) (hi : i < ls.length) (hr : Row w' B e2 1 (ps i).1 (rgt ls i).length (ps i).2 (ints ((rgt ls i).set m x))) (g : w.grownBy w' (blk (ps i).1)) : OwnSS e1 e2 w' B X c (ls.set i ((rgt ls i).set m x)) ps := by
  obtain ⟨⟨cells, hr0, hc⟩, ho, ht⟩ := h
  have hg : ∀ j, rgt (ls.set i ((rgt ls i).set m x)) j = if j = i then (rgt ls i).set m x else rgt ls j := fun j => by
    simp only [rgt, List.getD_eq_getElem?_getD, List.getElem?_set]
    by_cases hij : i = j
    · subst hij
      simp [hi]
    · rw [if_neg hij, if_neg (fun e => hij e.symm)]
  refine ⟨⟨cells, by rw [List.length_set]; exact Row.kept hr0 g (row_ne hr0 (ho i hi) he), fun j hj => ?_⟩, fun j hj => ?_, fun a b ha hb hab => ?_⟩
  · rw [List.length_set] at hj
    rw [hc j hj, hg j]
    by_cases hij : j = i
    · subst hij
      rw [if_pos rfl, List.length_set]
    · rw [if_neg hij]
  · rw [List.length_set] at hj
    rw [hg j]
    by_cases hij : j = i
    · subst hij
      rw [if_pos rfl]
      unfold Own
      rw [List.length_set]
      exact hr
    · rw [if_neg hij]
      exact Row.kept (ho j hj) g (ht j i hj hi hij)
  · rw [List.length_set] at ha hb
    exact ht a b ha hb hab
theorem OwnSS.ptr {e1 e2 : Nat} {w : World} {B c : Nat} {X : Option Addr} {ls : List (List Int)} {ps : Nat → Option Addr × Nat} (h : OwnSS e1 e2 w B X c ls ps) (hl : 0 < ls.length) : X = some (ad X) := by
  obtain ⟨⟨cells, hr, hc⟩, _⟩ := h
  exact hr.ptr hl
theorem OwnSS.cell {e1 e2 : Nat} {w : World} {B c : Nat} {X : Option Addr} {ls : List (List Int)} {ps : Nat → Option Addr × Nat} (h : OwnSS e1 e2 w B X c ls ps) {j : Nat} (hj : j < ls.length) : w.cell? ((ad X).add j) = some (.slice (ps j).1 (rgt ls j).length (ps j).2) := by
  obtain ⟨⟨cells, hr, hc⟩, _⟩ := h
  exact hr.src.cell _ _ (hc j hj)
/-- A row of one slice, and that slice. -/
theorem Apt.single {w0 w : World} {L : List Thing} (H : Apt w0 w L) {i j : Nat} (hij : i ≠ j) {e1 e2 c d : Nat} {X Y : Option Addr} {ys : List Int} (hi : L[i]? = some (rwi e1 1 X 1 c [.slice Y ys.length d])) (hj : L[j]? = some (rwi e2 1 Y ys.length d (Sh.ints ys))) : Apt w0 w ((L.set i (Sh.lssi e1 e2 X c [ys] fun _ => (Y, d))).set j emp) := by
  have hr := H.row i hi
  have ho := H.row j hj
  have o : OwnSS e1 e2 w w0.heap.size X c [ys] fun _ => (Y, d) := by
    refine ⟨⟨_, hr, fun l hl => ?_⟩, fun l hl => ?_, fun a b ha hb hab => ?_⟩
    · obtain rfl : l = 0 := by simpa using hl
      rfl
    · obtain rfl : l = 0 := by simpa using hl
      exact ho
    · simp at ha hb
      omega
  refine H.join hij hi hj (Gx.refl _ w) (fun q hq => ?_) (fun q hq => (o.foot hq).2) (lssi_kept o)
  rcases hq with hq | ⟨l, hl, hq⟩
  · exact .inl hq
  · exact .inr (.inl hq)
end Go.Sh
namespace Go.Proofs.Ytegcjkhebecgbaa
open Go Go.Sh Go.RowKit
abbrev lss (X : Option Addr) (c : Nat) (ls : List (List Int)) (ps : Nat → Option Addr × Nat) : Thing := lssi 27 3 X c ls ps
section
variable {k : Value → World → Prop} {w0 w w' : World} {L : List Thing}
/-- append of one owned slice to slices. -/
theorem pushSSH {k : Value → Value → World → Prop} (H : Apt w0 w L) (i j : Nat) (hij : i ≠ j) {u n c m d : Nat} {X Y : Option Addr} {ls : List (List Int)} {ys : List Int} {ps : Nat → Option Addr × Nat} (hi : L[i]? = some (lss X c ls ps)) (hj : L[j]? = some (ows Y d ys)) {cs : List Bool} (hn : n = ls.length) (hm : m = ys.length) (hb : ls.length ≤ 1000000000)
    (h : ∀ t X' c' w' ps', Apt w0 w' ((L.set i (lss X' c' (ls ++ [ys]) ps')).set j emp) → k t (.slice X' (ls ++ [ys]).length c') w') : Do Try.prog (sBuildSlice 35 1 [(0, .slice Y m d)]) (fun t w1 => Do Try.prog (sBuiltin .append #[35, 35] u cs [.slice X n c, t]) (k t) w1) w := by
  subst hn hm
  refine bs35 [.slice Y ys.length d] (by decide) (by simp [Instr.fill, madeCells, Value.cells, rng1]) rfl fun b w1 hb1 hb2 g hB hr => ?_
  have H1 := H.step g
  have o1 := H1.lssi i hi
  have o1' := o1
  obtain ⟨⟨cells, hr1, hc⟩, ho, ht⟩ := o1'
  have hY : Own 3 w1 w0.heap.size Y d ys := H1.own j hj
  refine do_append2 u35 inf27 rfl (by decide) hr1 (Row.src (hr _ (Nat.le_refl _))) rfl (by intro v hv; simp at hv; subst hv; rfl) (by omega) (by omega) H1.gr.size fun X' c' w' hr' hg hmv => ?_
  rw [show ls.length + 1 = (ls ++ [ys]).length from by simp]
  refine h _ X' c' w' (fun i => if i = ls.length then (Y, d) else ps i) (H1.join hij hi hj (gx_of hg fun q hq => .inl (.inl hq)) (fun q hq => ?_) (fun q hq => ?_) ?_)
  · rcases hq with hq | ⟨l, hl, hq⟩
    · rcases hmv with e | e
      · exact .inl (.inl (e ▸ hq))
      · exact .inr (.inr (e q hq))
    · rw [List.length_append] at hl
      simp only [List.length_cons, List.length_nil] at hl
      by_cases h1 : l = ls.length
      · subst h1
        simp only [if_true] at hq
        exact .inr (.inl hq)
      · simp only [h1, if_false] at hq
        exact .inl (.inr ⟨l, by omega, hq⟩)
  · have := (o1.push hY (fun l hl => by
      cases hq : blk (ps l).1 with
      | none => exact .inl rfl
      | some q => exact .inr fun e => H1.two i j _ _ hij hi hj q (.inr ⟨l, hl, hq⟩) (show blk Y = some q from e.symm)) (by decide) hr1 hc hr' hg)
    exact (this.foot hq).2
  · exact lssi_kept (o1.push hY (fun l hl => by
      cases hq : blk (ps l).1 with
      | none => exact .inl rfl
      | some q => exact .inr fun e => H1.two i j _ _ hij hi hj q (.inr ⟨l, hl, hq⟩) (show blk Y = some q from e.symm)) (by decide) hr1 hc hr' hg)
end
end Go.Proofs.Ytegcjkhebecgbaa

/- Plain: trees by lists of rules. -/
set_option linter.unusedVariables false
set_option linter.unusedSimpArgs false
namespace Go.Sh
/-! Trees by lists of rules. -/
inductive PT where
  | mk (non : Int) (rule at_ fin fr to : Nat) (kids : List PT)
def PT.non : PT → Int | .mk n _ _ _ _ _ _ => n
def PT.rule : PT → Nat | .mk _ r _ _ _ _ _ => r
def PT.at_ : PT → Nat | .mk _ _ a _ _ _ _ => a
def PT.fin : PT → Nat | .mk _ _ _ e _ _ _ => e
def PT.fr : PT → Nat | .mk _ _ _ _ f _ _ => f
def PT.to : PT → Nat | .mk _ _ _ _ _ t _ => t
def PT.kids : PT → List PT | .mk _ _ _ _ _ _ k => k
def okT (rs : List RuleL) (tree : List Int) (non : Int) (a : Nat) : Bool :=
  decide (a < tree.length) && (decide (0 ≤ tree.getD a 0) && decide (tree.getD a 0 ≤ (rs.length : Int) - 1)) && decide ((rul rs (tree.getD a 0).toNat).1 = non)
def rgtT (rs : List RuleL) (tree : List Int) (a : Nat) : List Int := (rul rs (tree.getD a 0).toNat).2
def readR (rec : Int → Nat → List Int → Option (PT × List Int)) : List Int → Nat → List Int → List PT → Option (List PT × Nat × List Int)
  | [], e, w, ks => some (ks, e, w)
  | x :: xs, e, w, ks => if x < 0 then readR rec xs e (w ++ [-1 - x]) ks else match rec x e w with
    | none => none
    | some (k, w') => readR rec xs k.fin w' (ks ++ [k])
def readT (rs : List RuleL) (tree : List Int) : Nat → Int → Nat → List Int → Option (PT × List Int)
  | 0, _, _, _ => none
  | f + 1, non, a, w => if okT rs tree non a = true then match readR (readT rs tree f) (rgtT rs tree a) (a + 1) w [] with
      | none => none
      | some (ks, e, w') => some (.mk non (tree.getD a 0).toNat a e w.length w'.length ks, w')
    else none
def endR (rec : Int → Nat → Option Nat) : List Int → Nat → Option Nat
  | [], e => some e
  | x :: xs, e => if x < 0 then endR rec xs e else match rec x e with
    | none => none
    | some e' => endR rec xs e'
def endT (rs : List RuleL) (tree : List Int) : Nat → Int → Nat → Option Nat
  | 0, _, _ => none
  | f + 1, non, a => if okT rs tree non a = true then endR (endT rs tree f) (rgtT rs tree a) (a + 1) else none
theorem endR_eq {rec : Int → Nat → List Int → Option (PT × List Int)} {rec' : Int → Nat → Option Nat} (h : ∀ x a w, rec' x a = (rec x a w).map fun z => z.1.fin) : ∀ (xs : List Int) (e : Nat) (w : List Int) (ks : List PT), endR rec' xs e = (readR rec xs e w ks).map fun z => z.2.1 := by
  intro xs
  induction xs with
  | nil => intro e w ks; rfl
  | cons x xs ih =>
    intro e w ks
    unfold endR readR
    by_cases hx : x < 0
    · rw [if_pos hx, if_pos hx]
      exact ih _ _ _
    · rw [if_neg hx, if_neg hx, h x e w]
      cases rec x e w with
      | none => rfl
      | some z => exact ih _ _ _
theorem endT_eq (rs : List RuleL) (tree : List Int) : ∀ (f : Nat) (non : Int) (a : Nat) (w : List Int), endT rs tree f non a = (readT rs tree f non a w).map fun z => z.1.fin := by
  intro f
  induction f with
  | zero => intro non a w; rfl
  | succ f ih =>
    intro non a w
    unfold endT readT
    by_cases hk : okT rs tree non a = true
    · rw [if_pos hk, if_pos hk, endR_eq ih _ _ w []]
      cases readR (readT rs tree f) (rgtT rs tree a) (a + 1) w [] <;> rfl
    · rw [if_neg hk, if_neg hk]
      rfl
mutual
def PT.parts : PT → List PT
  | .mk n r a e f t ks => .mk n r a e f t ks :: PT.partsL ks
def PT.partsL : List PT → List PT
  | [] => []
  | k :: ks => k.parts ++ PT.partsL ks
end
theorem partsL_append (ks ls : List PT) : PT.partsL (ks ++ ls) = PT.partsL ks ++ PT.partsL ls := by
  induction ks with
  | nil => simp [PT.partsL]
  | cons k ks ih => simp [PT.partsL, ih]
theorem parts_cons (p : PT) : p.parts = p :: PT.partsL p.kids := by
  cases p
  simp [PT.parts, PT.kids]
/-- Parts stand one behind the other from a place on; each part's own stand behind it. -/
def Laid (l : List PT) (a : Nat) : Prop := ∀ i, (h : i < l.length) → l[i].at_ = a + i ∧ l[i].fin ≤ a + l.length ∧ a + i < l[i].fin ∧ l[i].parts = (l.drop i).take (l[i].fin - (a + i))
theorem Laid.append {l m : List PT} {a : Nat} (h : Laid l a) (g : Laid m (a + l.length)) : Laid (l ++ m) a := by
  intro i hi
  by_cases hl : i < l.length
  · obtain ⟨h1, h2, h3, h4⟩ := h i hl
    rw [List.getElem_append_left hl]
    refine ⟨h1, by simp; omega, h3, ?_⟩
    rw [List.drop_append_of_le_length (by omega), List.take_append_of_le_length (by simp; omega)]
    exact h4
  · obtain ⟨d, rfl⟩ : ∃ d, i = l.length + d := ⟨i - l.length, by omega⟩
    have hm : d < m.length := by simp at hi; omega
    obtain ⟨h1, h2, h3, h4⟩ := g d hm
    have e : (l ++ m)[l.length + d] = m[d] := by
      rw [List.getElem_append_right (by omega)]
      simp
    rw [e]
    have hlen : (l ++ m).length = l.length + m.length := List.length_append
    refine ⟨?_, ?_, ?_, ?_⟩
    · omega
    · omega
    · omega
    · have e2 : (l ++ m).drop (l.length + d) = m.drop d := by
        rw [← List.drop_drop, List.drop_left]
      rw [h4, e2, Nat.add_assoc]
theorem readR_laid {rec : Int → Nat → List Int → Option (PT × List Int)} (h : ∀ x a w p w', rec x a w = some (p, w') → Laid p.parts a ∧ p.fin = a + p.parts.length ∧ p.at_ = a ∧ p.non = x ∧ p.fr = w.length ∧ p.to = w'.length ∧ w.length ≤ w'.length) :
    ∀ (xs : List Int) (e : Nat) (w : List Int) (ks : List PT) (a : Nat) {ks' : List PT} {e' : Nat} {w' : List Int}, Laid (PT.partsL ks) a → e = a + (PT.partsL ks).length → readR rec xs e w ks = some (ks', e', w') → Laid (PT.partsL ks') a ∧ e' = a + (PT.partsL ks').length ∧ w.length ≤ w'.length := by
  intro xs
  induction xs with
  | nil =>
    intro e w ks a ks' e' w' hl he hr
    simp only [readR, Option.some.injEq, Prod.mk.injEq] at hr
    obtain ⟨rfl, rfl, rfl⟩ := hr
    exact ⟨hl, he, Nat.le_refl _⟩
  | cons x xs ih =>
    intro e w ks a ks' e' w' hl he hr
    unfold readR at hr
    by_cases hx : x < 0
    · rw [if_pos hx] at hr
      obtain ⟨h1, h2, h3⟩ := ih _ _ _ _ hl he hr
      exact ⟨h1, h2, by simp at h3; omega⟩
    · rw [if_neg hx] at hr
      cases hz : rec x e w with
      | none => rw [hz] at hr; cases hr
      | some z =>
        obtain ⟨k, w1⟩ := z
        rw [hz] at hr
        obtain ⟨h1, h2, _, _, _, _, h3⟩ := h x e w k w1 hz
        have hl' : Laid (PT.partsL (ks ++ [k])) a := by
          rw [partsL_append]
          refine hl.append ?_
          simp only [PT.partsL, List.append_nil]
          rw [← he]
          exact h1
        obtain ⟨g1, g2, g3⟩ := ih _ _ _ _ hl' (by rw [partsL_append]; simp [PT.partsL]; omega) hr
        exact ⟨g1, g2, by omega⟩
theorem readT_laid (rs : List RuleL) (tree : List Int) : ∀ (f : Nat) (non : Int) (a : Nat) (w : List Int) (p : PT) (w' : List Int), readT rs tree f non a w = some (p, w') → Laid p.parts a ∧ p.fin = a + p.parts.length ∧ p.at_ = a ∧ p.non = non ∧ p.fr = w.length ∧ p.to = w'.length ∧ w.length ≤ w'.length := by
  intro f
  induction f with
  | zero => intro non a w p w' h; cases h
  | succ f ih =>
    intro non a w p w' h
    unfold readT at h
    by_cases hk : okT rs tree non a = true
    · rw [if_pos hk] at h
      cases hz : readR (readT rs tree f) (rgtT rs tree a) (a + 1) w [] with
      | none => rw [hz] at h; cases h
      | some z =>
        obtain ⟨ks, e, w1⟩ := z
        rw [hz] at h
        simp only [Option.some.injEq, Prod.mk.injEq] at h
        obtain ⟨rfl, rfl⟩ := h
        have h0 : Laid (PT.partsL []) (a + 1) := fun i hi => by simp [PT.partsL] at hi
        obtain ⟨h1, h2, h3⟩ := readR_laid ih _ _ _ _ (a + 1) h0 (by simp [PT.partsL]) hz
        refine ⟨?_, by simp [PT.parts, PT.fin]; omega, rfl, rfl, rfl, rfl, h3⟩
        rw [PT.parts]
        intro i hi
        cases i with
        | zero =>
          refine ⟨rfl, ?_, ?_, ?_⟩
          · simp [PT.fin]; omega
          · simp [PT.fin]; omega
          · simp only [List.getElem_cons_zero, PT.fin, List.drop_zero, PT.parts]
            rw [List.take_of_length_le]
            simp
            omega
        | succ i =>
          simp only [List.length_cons] at hi
          obtain ⟨g1, g2, g3, g4⟩ := h1 i (by omega)
          simp only [List.getElem_cons_succ, List.drop_succ_cons, List.length_cons]
          refine ⟨by rw [g1]; omega, by omega, by omega, ?_⟩
          rw [g4]
          congr 1
          omega
    · rw [if_neg hk] at h
      cases h
theorem endR_le {rec : Int → Nat → Option Nat} {n : Nat} (h : ∀ x e e', rec x e = some e' → e' ≤ n) : ∀ (xs : List Int) (e e' : Nat), e ≤ n → endR rec xs e = some e' → e' ≤ n := by
  intro xs
  induction xs with
  | nil =>
    intro e e' he hr
    simp only [endR, Option.some.injEq] at hr
    omega
  | cons x xs ih =>
    intro e e' he hr
    unfold endR at hr
    split at hr
    · exact ih e e' he hr
    · split at hr
      · cases hr
      · rename_i e1 hz
        exact ih e1 e' (h x e e1 hz) hr
theorem endT_le {rs : List RuleL} {tree : List Int} : ∀ {f : Nat} {non : Int} {a e : Nat}, endT rs tree f non a = some e → e ≤ tree.length := by
  intro f
  induction f with
  | zero => intro non a e h; cases h
  | succ f ih =>
    intro non a e h
    unfold endT at h
    split at h
    · rename_i hok
      simp only [okT, Bool.and_eq_true, decide_eq_true_eq] at hok
      exact endR_le (fun x e e' h => ih h) _ _ _ (by omega) h
    · cases h
theorem readT_le {rs : List RuleL} {tree : List Int} {f : Nat} {non : Int} {a : Nat} {w w' : List Int} {p : PT} (h : readT rs tree f non a w = some (p, w')) : p.fin ≤ tree.length := by
  have e := endT_eq rs tree f non a w
  rw [h] at e
  exact endT_le e
theorem readR_words {rec : Int → Nat → List Int → Option (PT × List Int)} (h : ∀ x a w p w', rec x a w = some (p, w') → w.length ≤ w'.length ∧ w'.length ≤ w.length + 4 * p.parts.length) :
    ∀ (xs : List Int) (e : Nat) (w : List Int) (ks : List PT) {ks' : List PT} {e' : Nat} {w' : List Int}, readR rec xs e w ks = some (ks', e', w') → w.length ≤ w'.length ∧ w'.length + 4 * (PT.partsL ks).length ≤ w.length + xs.length + 4 * (PT.partsL ks').length := by
  intro xs
  induction xs with
  | nil =>
    intro e w ks ks' e' w' hr
    simp only [readR, Option.some.injEq, Prod.mk.injEq] at hr
    obtain ⟨rfl, rfl, rfl⟩ := hr
    simp
  | cons x xs ih =>
    intro e w ks ks' e' w' hr
    unfold readR at hr
    split at hr
    · have := ih _ _ _ hr
      simp at this ⊢
      omega
    · split at hr
      · cases hr
      · rename_i k w1 hz
        have h1 := h _ _ _ _ _ hz
        have h2 := ih _ _ _ hr
        rw [partsL_append] at h2
        simp [PT.partsL] at h2 ⊢
        omega
theorem readT_words {rs : List RuleL} {tree : List Int} (h4 : ∀ q, q < rs.length → (rul rs q).2.length ≤ 4) : ∀ (f : Nat) (non : Int) (a : Nat) (w : List Int) (p : PT) (w' : List Int), readT rs tree f non a w = some (p, w') → w.length ≤ w'.length ∧ w'.length ≤ w.length + 4 * p.parts.length := by
  intro f
  induction f with
  | zero => intro non a w p w' h; cases h
  | succ f ih =>
    intro non a w p w' h
    unfold readT at h
    split at h
    · rename_i hok
      split at h
      · cases h
      · rename_i ks e w1 hz
        simp only [Option.some.injEq, Prod.mk.injEq] at h
        obtain ⟨rfl, rfl⟩ := h
        have h1 := readR_words ih _ _ _ _ hz
        have h5 : (rgtT rs tree a).length ≤ 4 := by
          simp only [okT, Bool.and_eq_true, decide_eq_true_eq] at hok
          exact h4 _ (by omega)
        simp only [PT.parts, List.length_cons, PT.partsL, List.length_nil] at h1 ⊢
        omega
    · cases h
/-- What a tree that is one has at its top. -/
theorem readT_some {rs : List RuleL} {tree : List Int} {f : Nat} {non : Int} {a : Nat} {w w' : List Int} {p : PT} (h : readT rs tree (f + 1) non a w = some (p, w')) : ∃ (q : Nat) (ks : List PT) (e : Nat), a < tree.length ∧ tree.getD a 0 = q ∧ q < rs.length ∧ (rul rs q).1 = non ∧ readR (readT rs tree f) (rul rs q).2 (a + 1) w [] = some (ks, e, w') ∧ p = .mk non q a e w.length w'.length ks := by
  unfold readT at h
  split at h
  · rename_i hok
    split at h
    · cases h
    · rename_i ks e w1 hz
      simp only [Option.some.injEq, Prod.mk.injEq] at h
      obtain ⟨rfl, rfl⟩ := h
      simp only [okT, Bool.and_eq_true, decide_eq_true_eq] at hok
      exact ⟨(tree.getD a 0).toNat, ks, e, hok.1.1, by omega, by omega, hok.2, hz, rfl⟩
  · cases h
theorem readR_tok {rec : Int → Nat → List Int → Option (PT × List Int)} {x : Int} {xs : List Int} {e : Nat} {w : List Int} {ks : List PT} (hx : x < 0) : readR rec (x :: xs) e w ks = readR rec xs e (w ++ [-1 - x]) ks := by
  rw [readR, if_pos hx]
theorem okT_eq {rs : List RuleL} {tree : List Int} {non : Int} {a : Nat} : okT rs tree non a = (decide (a < tree.length) && inB (tree.getD a 0) 0 ((rs.length : Int) - 1) && decide ((rul rs (tree.getD a 0).toNat).1 = non)) := rfl
theorem okT_lt {rs : List RuleL} {tree : List Int} {non : Int} {a : Nat} (h : ¬ a < tree.length) : okT rs tree non a = false := by
  rw [okT_eq, decide_eq_false h, Bool.false_and, Bool.false_and]
theorem okT_in {rs : List RuleL} {tree : List Int} {non : Int} {a : Nat} (h : inB (tree.getD a 0) 0 ((rs.length : Int) - 1) = false) : okT rs tree non a = false := by
  rw [okT_eq, h, Bool.and_false, Bool.false_and]
theorem okT_ne {rs : List RuleL} {tree : List Int} {non : Int} {a q : Nat} (hq : tree.getD a 0 = q) (h : ¬ (rul rs q).1 = non) : okT rs tree non a = false := by
  rw [okT_eq, hq, Int.toNat_natCast, decide_eq_false h, Bool.and_false]
theorem okT_of {rs : List RuleL} {tree : List Int} {non : Int} {a q : Nat} (h0 : a < tree.length) (h1 : inB (tree.getD a 0) 0 ((rs.length : Int) - 1) = true) (hq : tree.getD a 0 = q) (h : (rul rs q).1 = non) : okT rs tree non a = true := by
  rw [okT_eq, h1, hq, Int.toNat_natCast, decide_eq_true h, decide_eq_true h0]
  rfl
theorem readT_no {rs : List RuleL} {tree : List Int} {f : Nat} {non : Int} {a : Nat} {w : List Int} (h : okT rs tree non a = false) : readT rs tree (f + 1) non a w = none := by
  simp only [readT, h, Bool.false_eq_true, if_false]
theorem readT_of {rs : List RuleL} {tree : List Int} {f q : Nat} {non : Int} {a : Nat} {w : List Int} (h : okT rs tree non a = true) (hq : tree.getD a 0 = q) : readT rs tree (f + 1) non a w = match readR (readT rs tree f) (rul rs q).2 (a + 1) w [] with
    | none => none
    | some (ks, e, w') => some (.mk non q a e w.length w'.length ks, w') := by
  rw [readT, if_pos h, rgtT, hq, Int.toNat_natCast]
/-- What the reference tells of a part. -/
def PT.row (p : PT) : List Int := [p.non, p.fin, p.fr, p.to]
def pairT (x y : PT) : Bool := decide (x.non = y.non) && (!decide (x.fr = y.fr) || !decide (x.to = y.to))
def noPT : PT := .mk 0 0 0 0 0 0 []
def ptn (l : List PT) (i : Nat) : PT := l.getD i noPT
theorem ptn_eq {l : List PT} {i : Nat} (h : i < l.length) : ptn l i = l[i] := by simp [ptn, List.getD_eq_getElem?_getD, h]
/-- The first two parts that can be pumped. -/
def pumpV (l : List PT) : Option (Nat × Nat) := (List.range l.length).findSome? fun p => (List.range' (p + 1) ((ptn l p).fin - (p + 1))).findSome? fun q => if pairT (ptn l p) (ptn l q) = true then some (p, q) else none
theorem find_first {β : Type} {f : Nat → Option β} {b : β} {m : Nat} : ∀ (n a : Nat), a ≤ m → m < a + n → f m = some b → (∀ m', a ≤ m' → m' < m → f m' = none) → (List.range' a n).findSome? f = some b := by
  intro n
  induction n with
  | zero => intro a h1 h2; omega
  | succ n ih =>
    intro a h1 h2 h3 h4
    rw [List.range'_succ, List.findSome?_cons]
    by_cases e : a = m
    · subst e
      rw [h3]
    · rw [h4 a (Nat.le_refl _) (by omega)]
      exact ih (a + 1) (by omega) (by omega) h3 fun m' g1 g2 => h4 m' (by omega) g2
theorem find_none {β : Type} {f : Nat → Option β} : ∀ (n a : Nat), (∀ m', a ≤ m' → m' < a + n → f m' = none) → (List.range' a n).findSome? f = none := by
  intro n
  induction n with
  | zero => intro a h; rfl
  | succ n ih =>
    intro a h
    rw [List.range'_succ, List.findSome?_cons, h a (Nat.le_refl _) (by omega)]
    exact ih (a + 1) fun m' g1 g2 => h m' (by omega) (by omega)
/-- No pair with its first part at p, its second one ahead of q. -/
def Dry (l : List PT) (p q : Nat) : Prop := ∀ q', p < q' → q' < q → pairT (ptn l p) (ptn l q') = false
theorem pumpV_some {l : List PT} {p q : Nat} (hp : p < l.length) (h1 : p < q) (h2 : q < (ptn l p).fin) (h : pairT (ptn l p) (ptn l q) = true) (hd : Dry l p q) (hb : ∀ p', p' < p → Dry l p' (ptn l p').fin) : pumpV l = some (p, q) := by
  unfold pumpV
  rw [List.range_eq_range']
  refine find_first _ 0 (Nat.zero_le p) (by omega) ?_ fun p' _ hp' => ?_
  · refine find_first _ (p + 1) h1 (by omega) (by rw [if_pos h]) fun q' g1 g2 => ?_
    rw [if_neg (by rw [hd q' g1 g2]; decide)]
  · refine find_none _ (p' + 1) fun q' g1 g2 => ?_
    rw [if_neg (by rw [hb p' hp' q' g1 (by omega)]; decide)]
theorem pumpV_none {l : List PT} (hb : ∀ p', p' < l.length → Dry l p' (ptn l p').fin) : pumpV l = none := by
  unfold pumpV
  rw [List.range_eq_range']
  refine find_none _ 0 fun p' _ hp' => ?_
  refine find_none _ (p' + 1) fun q' g1 g2 => ?_
  rw [if_neg (by rw [hb p' (by omega) q' g1 (by omega)]; decide)]
end Go.Sh

/- Things that lie apart, in any order; trees of parts in memory. -/
set_option linter.unusedVariables false
set_option linter.unusedSimpArgs false
set_option maxRecDepth 100000
namespace Go.Sh
open Go
/-! ### Order, less, together -/
def Away (a b : Thing) : Prop := ∀ q, a.ft q → ¬ b.ft q
theorem Away.symm {a b : Thing} (h : Away a b) : Away b a := fun q hq hq' => h q hq' hq
theorem apt_pair {L : List Thing} : (∀ (i j : Nat) (a b : Thing), i ≠ j → L[i]? = some a → L[j]? = some b → Away a b) ↔ L.Pairwise Away := by
  induction L with
  | nil => exact ⟨fun _ => .nil, fun _ i j a b _ h => by simp at h⟩
  | cons x L ih =>
    constructor
    · intro h
      refine List.Pairwise.cons (fun y hy => ?_) (ih.1 fun i j a b hij ha hb => h (i + 1) (j + 1) a b (by omega) (by simpa using ha) (by simpa using hb))
      obtain ⟨j, hj⟩ := List.getElem?_of_mem hy
      exact h 0 (j + 1) x y (by omega) rfl (by simpa using hj)
    · intro h i j a b hij ha hb
      obtain ⟨h1, h2⟩ := List.pairwise_cons.1 h
      match i, j with
      | 0, 0 => exact absurd rfl hij
      | 0, j + 1 =>
        obtain rfl : x = a := by simpa using ha
        exact h1 b (List.mem_of_getElem? (by simpa using hb))
      | i + 1, 0 =>
        obtain rfl : x = b := by simpa using hb
        exact (h1 a (List.mem_of_getElem? (by simpa using ha))).symm
      | i + 1, j + 1 => exact ih.2 h2 i j a b (by omega) (by simpa using ha) (by simpa using hb)
theorem Apt.perm {w0 w : World} {L M : List Thing} (H : Apt w0 w L) (p : L.Perm M) : Apt w0 w M := by
  refine ⟨H.gr, fun i it hi => ?_, apt_pair.2 ?_⟩
  · obtain ⟨j, hj⟩ := List.getElem?_of_mem (p.symm.subset (List.mem_of_getElem? hi))
    exact H.ok j it hj
  · exact (p.pairwise_iff fun h => Away.symm h).1 (apt_pair.1 H.two)
/-- The last thing comes to place n. -/
theorem Apt.insert {w0 w : World} {L : List Thing} {x : Thing} (H : Apt w0 w (L ++ [x])) (n : Nat) : Apt w0 w (L.take n ++ x :: L.drop n) := by
  refine H.perm ?_
  have e : L ++ [x] = L.take n ++ (L.drop n ++ [x]) := by rw [← List.append_assoc, List.take_append_drop]
  rw [e]
  exact (List.perm_append_comm (l₁ := L.drop n) (l₂ := [x])).append_left _
theorem Apt.erase {w0 w : World} {L : List Thing} (H : Apt w0 w L) (n : Nat) : Apt w0 w (L.eraseIdx n) := by
  have h : ∀ (i : Nat) (a : Thing), (L.eraseIdx n)[i]? = some a → L[if i < n then i else i + 1]? = some a := fun i a ha => by
    rw [List.getElem?_eraseIdx] at ha
    split at ha
    · rename_i h; rw [if_pos h]; exact ha
    · rename_i h; rw [if_neg h]; exact ha
  refine H.pick (fun i => if i < n then i else i + 1) h fun i j _ _ e => ?_
  split at e <;> split at e <;> omega
theorem Apt.weaken {w0 w : World} {L : List Thing} (H : Apt w0 w L) (i : Nat) {a b : Thing} (hi : L[i]? = some a) (hf : ∀ q, b.ft q → a.ft q) (hp : ∀ w', (∀ q, a.ft q → w'.heap[q]? = w.heap[q]?) → a.P w' → b.P w') (hk : ∀ w' w'', (∀ q, b.ft q → w''.heap[q]? = w'.heap[q]?) → b.P w' → b.P w'') : Apt w0 w (L.set i b) :=
  H.set hi (Gx.refl _ w) (fun q hq => .inl (hf q hq)) (fun q hq => (H.ok i a hi).hi q (hf q hq)) fun w'' h => hk w w'' h (hp w (fun _ _ => rfl) (H.get i hi))
def both (a b : Thing) : Thing := ⟨fun w => a.P w ∧ b.P w, fun q => a.ft q ∨ b.ft q⟩
/-- Two things held as one. -/
theorem Apt.both {w0 w : World} {L : List Thing} (H : Apt w0 w L) (i j : Nat) (hij : i ≠ j) {a b : Thing} (hi : L[i]? = some a) (hj : L[j]? = some b) : Apt w0 w (((L.set i (Sh.both a b)).set j emp).eraseIdx j) :=
  (H.join (it := Sh.both a b) hij hi hj (Gx.refl _ w) (fun q hq => hq.elim .inl fun h => .inr (.inl h)) (fun q hq => hq.elim ((H.ok i a hi).hi q) ((H.ok j b hj).hi q)) fun w'' h => ⟨(H.ok i a hi).kept w'' fun q hq => h q (.inl hq), (H.ok j b hj).kept w'' fun q hq => h q (.inr hq)⟩).erase j

/-! ### Trees of parts -/
abbrev ptrv (b : Nat) : Value := .pointer (some ⟨b, 0, none⟩)
mutual
def PartAt (F : Nat → Prop) (w : World) : PT → Nat → Prop
  | .mk non rule a e f t ks, b => F b ∧ ∃ X c, Box w b [.int .i64 non, .int .i64 rule, .int .i64 a, .int .i64 e, .int .i64 f, .int .i64 t, .slice X ks.length c] 156 ∧ (0 < ks.length → X = some (ad X) ∧ F (ad X).block) ∧ ks.length ≤ c ∧ KidsAt F w ks X 0
def KidsAt (F : Nat → Prop) (w : World) : List PT → Option Addr → Nat → Prop
  | [], _, _ => True
  | k :: ks, X, j => (∃ b, w.cell? ((ad X).add j) = some (ptrv b) ∧ PartAt F w k b) ∧ KidsAt F w ks X (j + 1)
end
mutual
theorem PartAt.gr {F : Nat → Prop} {w w' : World} (g : Gr w w') : (p : PT) → (b : Nat) → PartAt F w p b → PartAt F w' p b
  | .mk non rule a e f t ks, b, h => by
    simp only [PartAt] at h ⊢
    obtain ⟨hb, X, c, h1, h2, h3, h4⟩ := h
    exact ⟨hb, X, c, h1.gr g, h2, h3, KidsAt.gr g ks X 0 h4⟩
theorem KidsAt.gr {F : Nat → Prop} {w w' : World} (g : Gr w w') : (ks : List PT) → (X : Option Addr) → (j : Nat) → KidsAt F w ks X j → KidsAt F w' ks X j
  | [], X, j, _ => by simp only [KidsAt]
  | k :: ks, X, j, h => by
    simp only [KidsAt] at h ⊢
    obtain ⟨⟨b, h1, h2⟩, h3⟩ := h
    exact ⟨⟨b, g.cell h1, PartAt.gr g k b h2⟩, KidsAt.gr g ks X (j + 1) h3⟩
end
mutual
theorem PartAt.same {F : Nat → Prop} {w w' : World} (hs : ∀ q, F q → w'.heap[q]? = w.heap[q]?) : (p : PT) → (b : Nat) → PartAt F w p b → PartAt F w' p b
  | .mk non rule a e f t ks, b, h => by
    simp only [PartAt] at h ⊢
    obtain ⟨hb, X, c, h1, h2, h3, h4⟩ := h
    refine ⟨hb, X, c, (hs b hb).trans h1, h2, h3, ?_⟩
    cases ks with
    | nil => simp only [KidsAt]
    | cons k ks => exact KidsAt.same hs (k :: ks) X 0 (h2 (by simp)).2 h4
theorem KidsAt.same {F : Nat → Prop} {w w' : World} (hs : ∀ q, F q → w'.heap[q]? = w.heap[q]?) : (ks : List PT) → (X : Option Addr) → (j : Nat) → F (ad X).block → KidsAt F w ks X j → KidsAt F w' ks X j
  | [], X, j, _, _ => by simp only [KidsAt]
  | k :: ks, X, j, hX, h => by
    simp only [KidsAt] at h ⊢
    obtain ⟨⟨b, h1, h2⟩, h3⟩ := h
    refine ⟨⟨b, ?_, PartAt.same hs k b h2⟩, KidsAt.same hs ks X (j + 1) hX h3⟩
    rw [World.cell?_of_block (hs _ (by rw [add_block]; exact hX))]
    exact h1
end
mutual
theorem PartAt.mono {F E : Nat → Prop} {w : World} (he : ∀ q, F q → E q) : (p : PT) → (b : Nat) → PartAt F w p b → PartAt E w p b
  | .mk non rule a e f t ks, b, h => by
    simp only [PartAt] at h ⊢
    obtain ⟨hb, X, c, h1, h2, h3, h4⟩ := h
    exact ⟨he _ hb, X, c, h1, fun hp => ⟨(h2 hp).1, he _ (h2 hp).2⟩, h3, KidsAt.mono he ks X 0 h4⟩
theorem KidsAt.mono {F E : Nat → Prop} {w : World} (he : ∀ q, F q → E q) : (ks : List PT) → (X : Option Addr) → (j : Nat) → KidsAt F w ks X j → KidsAt E w ks X j
  | [], X, j, _ => by simp only [KidsAt]
  | k :: ks, X, j, h => by
    simp only [KidsAt] at h ⊢
    obtain ⟨⟨b, h1, h2⟩, h3⟩ := h
    exact ⟨⟨b, h1, PartAt.mono he k b h2⟩, KidsAt.mono he ks X (j + 1) h3⟩
end
theorem KidsAt.get {F : Nat → Prop} {w : World} {X : Option Addr} : ∀ {ks : List PT} {j i : Nat}, KidsAt F w ks X j → i < ks.length → ∃ b, w.cell? ((ad X).add (j + i)) = some (ptrv b) ∧ PartAt F w (ptn ks i) b := by
  intro ks
  induction ks with
  | nil => intro j i _ h; simp at h
  | cons k ks ih =>
    intro j i h hi
    simp only [KidsAt] at h
    cases i with
    | zero => exact h.1
    | succ i =>
      obtain ⟨b, h1, h2⟩ := ih h.2 (by simpa using hi)
      exact ⟨b, by rw [show j + (i + 1) = j + 1 + i from by omega]; exact h1, by simpa [ptn] using h2⟩
/-- What is at a part's place. -/
theorem PartAt.box {F : Nat → Prop} {w : World} {p : PT} {b : Nat} (h : PartAt F w p b) : ∃ X c, Box w b [.int .i64 p.non, .int .i64 p.rule, .int .i64 p.at_, .int .i64 p.fin, .int .i64 p.fr, .int .i64 p.to, .slice X p.kids.length c] 156 ∧ (0 < p.kids.length → X = some (ad X)) ∧ p.kids.length ≤ c ∧ KidsAt F w p.kids X 0 := by
  cases p with
  | mk non rule a e f t ks =>
    simp only [PartAt] at h
    obtain ⟨_, X, c, h1, h2, h3, h4⟩ := h
    exact ⟨X, c, h1, fun hp => (h2 hp).1, h3, h4⟩
/-- Pointers to parts. -/
def AllPt (F : Nat → Prop) (w : World) (ps : List PT) (bs : List Nat) : Prop := bs.length = ps.length ∧ ∀ i, i < ps.length → PartAt F w (ptn ps i) (bs.getD i 0)
theorem AllPt.gr {F : Nat → Prop} {w w' : World} {ps : List PT} {bs : List Nat} (h : AllPt F w ps bs) (g : Gr w w') : AllPt F w' ps bs := ⟨h.1, fun i hi => PartAt.gr g _ _ (h.2 i hi)⟩
theorem PartAt.across {F : Nat → Prop} {w w1 w2 : World} {p : PT} {b : Nat} (h : PartAt F w1 p b) (hF : ∀ q, F q → q < w.heap.size) (g1 : Gr w w1) (g2 : Gr w w2) : PartAt F w2 p b :=
  PartAt.same (fun q hq => (g2.block q (hF q hq) (by simp)).trans (g1.block q (hF q hq) (by simp)).symm) p b h
theorem AllPt.across {F : Nat → Prop} {w w1 w2 : World} {ps : List PT} {bs : List Nat} (h : AllPt F w1 ps bs) (hF : ∀ q, F q → q < w.heap.size) (g1 : Gr w w1) (g2 : Gr w w2) : AllPt F w2 ps bs :=
  ⟨h.1, fun i hi => (h.2 i hi).across hF g1 g2⟩
theorem AllPt.append {F : Nat → Prop} {w : World} {ps qs : List PT} {bs cs : List Nat} (h : AllPt F w ps bs) (g : AllPt F w qs cs) : AllPt F w (ps ++ qs) (bs ++ cs) := by
  refine ⟨by simp [h.1, g.1], fun i hi => ?_⟩
  by_cases hl : i < ps.length
  · have := h.2 i hl
    have hb := h.1
    simpa [ptn, List.getD_eq_getElem?_getD, List.getElem?_append_left hl, List.getElem?_append_left (show i < bs.length by omega)] using this
  · rw [List.length_append] at hi
    have := g.2 (i - ps.length) (by omega)
    have hb := h.1
    rw [show ptn (ps ++ qs) i = ptn qs (i - ps.length) from by simp [ptn, List.getD_eq_getElem?_getD, List.getElem?_append_right (show ps.length ≤ i by omega)]]
    rw [show (bs ++ cs).getD i 0 = cs.getD (i - ps.length) 0 from by simp [List.getD_eq_getElem?_getD, List.getElem?_append_right (show bs.length ≤ i by omega), hb]]
    exact this
theorem AllPt.one {F : Nat → Prop} {w : World} {p : PT} {b : Nat} (h : PartAt F w p b) : AllPt F w [p] [b] := ⟨rfl, fun i hi => by
  obtain rfl : i = 0 := by simpa using hi
  exact h⟩

/-! ### Building a struct -/
def sizesOK (P : Program) : List Field → List (Nat × Nat) → Prop
  | [], [] => True
  | f :: fs, p :: ps => (f.offset = p.1 ∧ szOf P f.type p.2) ∧ sizesOK P fs ps
  | _, _ => False
theorem run_places {P : Program} (w : World) : ∀ (fs : List Field) (ps : List (Nat × Nat)), sizesOK P fs ps → (fs.mapM (m := Sem) fun f => do pure (f.offset, ← sizeOf f.type)).run P w = .ok ps w := by
  intro fs
  induction fs with
  | nil =>
    intro ps h
    cases ps with
    | nil => rfl
    | cons p ps => exact h.elim
  | cons f fs ih =>
    intro ps h
    cases ps with
    | nil => exact h.elim
    | cons p ps =>
      obtain ⟨⟨h1, h2⟩, h3⟩ := h
      rw [List.mapM_cons]
      simp only [Sem.run_bind, run_size h2, Result.andThen, Sem.run_pure, ih ps h3, h1]
theorem rd_buildN {P : Program} {S : WS} {k : Value → Prop} {t sz by' : Nat} {z : Value} {fs : Array Field} {ps : List (Nat × Nat)} {qs : List (Nat × Value)} {cells : Array Value} (ht : P.underlying t = some (.struct fs)) (H : Inf P t z sz by') (hs : sizesOK P fs.toList ps) (hf : Instr.fill (ps.toArray[·]?) z.cells qs = some cells) : Rd P S (sBuild t qs) k = k (.agg cells) := rd_eq fun w _ => by
  obtain ⟨i, hi, hz, _, _⟩ := H
  have e0 : (zeroValue t).run P w = .ok z w := by simp [zeroValue, run_info hi, hz]
  have e1 : (fs.mapM (m := Sem) fun f => do pure (f.offset, ← sizeOf f.type)).run P w = .ok ps.toArray w := by
    rw [Array.mapM_eq_mapM_toList, Sem.run_map, run_places w fs.toList ps hs]
    rfl
  simp only [sBuild, Instr.build, Sem.run_bind, e0, Result.andThen, run_underlying ht, e1, hf]
  rfl
end Go.Sh
namespace Go.Proofs.Ytegcjkhebecgbaa
open Go Go.Sh
theorem inf156' : Inf Try.prog 156 (.agg #[.int .i64 0, .int .i64 0, .int .i64 0, .int .i64 0, .int .i64 0, .int .i64 0, .slice none 0 0]) 7 72 := inf_of (by kernel_rfl)
theorem bd156 {S : WS} {k : Value → Prop} {qs : List (Nat × Value)} {cells : Array Value} (hf : Instr.fill (#[(0, 1), (1, 1), (2, 1), (3, 1), (4, 1), (5, 1), (6, 1)][·]?) #[.int .i64 0, .int .i64 0, .int .i64 0, .int .i64 0, .int .i64 0, .int .i64 0, .slice none 0 0] qs = some cells) : Rd Try.prog S (sBuild 156 qs) k = k (.agg cells) :=
  rd_buildN (ps := [(0, 1), (1, 1), (2, 1), (3, 1), (4, 1), (5, 1), (6, 1)]) Try.underlying156 inf156' ⟨⟨rfl, sz3⟩, ⟨rfl, sz3⟩, ⟨rfl, sz3⟩, ⟨rfl, sz3⟩, ⟨rfl, sz3⟩, ⟨rfl, sz3⟩, ⟨rfl, sz154⟩, trivial⟩ hf
end Go.Proofs.Ytegcjkhebecgbaa

/- Slices of slices of values that are owned. -/
set_option linter.unusedVariables false
set_option linter.unusedSimpArgs false
set_option maxRecDepth 100000
namespace Go.Sh
open Go
def vls (ls : List (List Value)) (j : Nat) : List Value := ls.getD j []
theorem vls_eq {ls : List (List Value)} {j : Nat} (h : j < ls.length) : vls ls j = ls[j] := by simp [vls, List.getD_eq_getElem?_getD, h]
theorem vls_set {ls : List (List Value)} {i j : Nat} {l : List Value} (hi : i < ls.length) : vls (ls.set i l) j = if j = i then l else vls ls j := by
  simp only [vls, List.getD_eq_getElem?_getD, List.getElem?_set]
  by_cases hij : i = j
  · subst hij
    simp [hi]
  · rw [if_neg hij, if_neg (fun e => hij e.symm)]
/-- Slices of values of the call's own: the row, and a slice of its own for each. -/
structure OwnV (e1 e2 : Nat) (w : World) (B : Nat) (X : Option Addr) (c : Nat) (ls : List (List Value)) (ps : Nat → Option Addr × Nat) : Prop where
  row : ∃ cells, Row w B e1 1 X ls.length c cells ∧ ∀ j, j < ls.length → cells[j]? = some (.slice (ps j).1 (vls ls j).length (ps j).2)
  own : ∀ j, j < ls.length → Row w B e2 1 (ps j).1 (vls ls j).length (ps j).2 (vls ls j)
  two : ∀ i j, i < ls.length → j < ls.length → i ≠ j → blk (ps i).1 = none ∨ blk (ps i).1 ≠ blk (ps j).1
section
variable {e1 e2 : Nat} {w w' : World} {B B' : Nat} {X : Option Addr} {c : Nat} {ls : List (List Value)} {ps : Nat → Option Addr × Nat}
theorem OwnV.same (h : OwnV e1 e2 w B X c ls ps) (hs : ∀ q, Foot X ps ls.length q → w'.heap[q]? = w.heap[q]?) : OwnV e1 e2 w' B X c ls ps := by
  obtain ⟨⟨cells, hr, hc⟩, ho, ht⟩ := h
  exact ⟨⟨cells, hr.same fun q hq => hs q (.inl hq), hc⟩, fun j hj => Row.same (ho j hj) fun q hq => hs q (.inr ⟨j, hj, hq⟩), ht⟩
theorem OwnV.up (h : OwnV e1 e2 w B X c ls ps) (hs : ∀ q, Foot X ps ls.length q → B' ≤ q) : OwnV e1 e2 w B' X c ls ps := by
  obtain ⟨⟨cells, hr, hc⟩, ho, ht⟩ := h
  exact ⟨⟨cells, hr.up fun q hq => hs q (.inl hq), hc⟩, fun j hj => Row.up (ho j hj) fun q hq => hs q (.inr ⟨j, hj, hq⟩), ht⟩
theorem OwnV.mono (h : OwnV e1 e2 w B X c ls ps) (hb : B' ≤ B) : OwnV e1 e2 w B' X c ls ps := by
  obtain ⟨⟨cells, hr, hc⟩, ho, ht⟩ := h
  exact ⟨⟨cells, Row.mono hr hb, hc⟩, fun j hj => Row.mono (ho j hj) hb, ht⟩
theorem OwnV.foot (h : OwnV e1 e2 w B X c ls ps) {q : Nat} (hq : Foot X ps ls.length q) : B ≤ q ∧ q < w.heap.size := by
  obtain ⟨⟨cells, hr, hc⟩, ho, ht⟩ := h
  rcases hq with hq | ⟨l, hl, hq⟩
  · exact hr.ge hq
  · exact Row.ge (ho l hl) hq
theorem OwnV.ptr (h : OwnV e1 e2 w B X c ls ps) (hl : 0 < ls.length) : X = some (ad X) := by
  obtain ⟨⟨cells, hr, hc⟩, _⟩ := h
  exact hr.ptr hl
theorem OwnV.cell (h : OwnV e1 e2 w B X c ls ps) {j : Nat} (hj : j < ls.length) : w.cell? ((ad X).add j) = some (.slice (ps j).1 (vls ls j).length (ps j).2) := by
  obtain ⟨⟨cells, hr, hc⟩, _⟩ := h
  exact hr.src.cell _ _ (hc j hj)
/-- One value of one slice is written. -/
theorem OwnV.put {i m : Nat} {v : Value} (h : OwnV e1 e2 w B X c ls ps) (he : e1 ≠ e2) (hi : i < ls.length) (hr : Row w' B e2 1 (ps i).1 (vls ls i).length (ps i).2 ((vls ls i).set m v)) (g : w.grownBy w' (blk (ps i).1)) : OwnV e1 e2 w' B X c (ls.set i ((vls ls i).set m v)) ps := by
  obtain ⟨⟨cells, hr0, hc⟩, ho, ht⟩ := h
  refine ⟨⟨cells, by rw [List.length_set]; exact Row.kept hr0 g (row_ne hr0 (ho i hi) he), fun j hj => ?_⟩, fun j hj => ?_, fun a b ha hb hab => ?_⟩
  · rw [List.length_set] at hj
    rw [hc j hj, vls_set hi]
    by_cases hij : j = i
    · subst hij
      rw [if_pos rfl, List.length_set]
    · rw [if_neg hij]
  · rw [List.length_set] at hj
    rw [vls_set hi]
    by_cases hij : j = i
    · subst hij
      rw [if_pos rfl, List.length_set]
      exact hr
    · rw [if_neg hij]
      exact Row.kept (ho j hj) g (ht j i hj hi hij)
  · rw [List.length_set] at ha hb
    exact ht a b ha hb hab
/-- One slice comes to a place. -/
theorem OwnV.setRow {i d B2 : Nat} {Y : Option Addr} {l cells : List Value} (h : OwnV e1 e2 w B X c ls ps) (he : e1 ≠ e2) (hi : i < ls.length) (ho : Row w B2 e2 1 Y l.length d l) (hne : ∀ j, j < ls.length → blk (ps j).1 = none ∨ blk (ps j).1 ≠ blk Y)
    (hr0 : Row w B e1 1 X ls.length c cells) (hc : ∀ j, j < ls.length → cells[j]? = some (.slice (ps j).1 (vls ls j).length (ps j).2)) (hr : Row w' B e1 1 X ls.length c (cells.set i (.slice Y l.length d))) (g : w.grownBy w' (blk X)) : OwnV e1 e2 w' 0 X c (ls.set i l) (fun j => if j = i then (Y, d) else ps j) := by
  have hlen := hr0.len
  refine ⟨⟨_, by rw [List.length_set]; exact Row.mono hr (Nat.zero_le _), fun j hj => ?_⟩, fun j hj => ?_, fun a b ha hb hab => ?_⟩
  · rw [List.length_set] at hj
    rw [vls_set hi]
    by_cases hij : j = i
    · subst hij
      simp only [if_true]
      rw [List.getElem?_set_self (by omega)]
    · simp only [hij, if_false]
      rw [List.getElem?_set_ne (fun e => hij e.symm)]
      exact hc j hj
  · rw [List.length_set] at hj
    rw [vls_set hi]
    by_cases hij : j = i
    · subst hij
      simp only [if_true]
      exact Row.mono (Row.kept ho g (row_ne ho hr0 fun e => he e.symm)) (Nat.zero_le _)
    · simp only [hij, if_false]
      exact Row.mono (Row.kept (h.own j hj) g (row_ne (h.own j hj) hr0 fun e => he e.symm)) (Nat.zero_le _)
  · rw [List.length_set] at ha hb
    by_cases hai : a = i <;> by_cases hbi : b = i
    · omega
    · simp only [hai, hbi, if_true, if_false]
      exact blk_sym (hne b hb)
    · simp only [hai, hbi, if_true, if_false]
      exact hne a ha
    · simp only [hai, hbi, if_false]
      exact h.two a b ha hb hab
end
def vvi (e1 e2 : Nat) (X : Option Addr) (c : Nat) (ls : List (List Value)) (ps : Nat → Option Addr × Nat) : Thing := ⟨fun w => OwnV e1 e2 w 0 X c ls ps, Foot X ps ls.length⟩
theorem vvi_kept {w : World} {B e1 e2 c : Nat} {X : Option Addr} {ls : List (List Value)} {ps : Nat → Option Addr × Nat} (h : OwnV e1 e2 w B X c ls ps) : ∀ w', (∀ q, (vvi e1 e2 X c ls ps).ft q → w'.heap[q]? = w.heap[q]?) → (vvi e1 e2 X c ls ps).P w' := fun w' hq => (h.mono (Nat.zero_le B)).same hq
theorem Apt.vv {w0 w : World} {L : List Thing} (H : Apt w0 w L) (i : Nat) {e1 e2 c : Nat} {X : Option Addr} {ls : List (List Value)} {ps : Nat → Option Addr × Nat} (hi : L[i]? = some (vvi e1 e2 X c ls ps)) : OwnV e1 e2 w w0.heap.size X c ls ps := OwnV.up (H.get i hi) (H.ok i _ hi).lo
/-- A row of nil slices. -/
theorem Apt.nilVV {w0 w : World} {L : List Thing} (H : Apt w0 w L) (i : Nat) {e1 c n : Nat} (e2 : Nat) {X : Option Addr} (hi : L[i]? = some (rwi e1 1 X n c (List.replicate n (.slice none 0 0)))) : Apt w0 w (L.set i (vvi e1 e2 X c (List.replicate n []) fun _ => (none, 0))) := by
  have hr := H.row i hi
  have hv : ∀ j, vls (List.replicate n []) j = [] := fun j => by
    simp only [vls, List.getD_eq_getElem?_getD, List.getElem?_replicate]
    split <;> rfl
  have o : OwnV e1 e2 w w0.heap.size X c (List.replicate n []) fun _ => (none, 0) := by
    refine ⟨⟨_, by rw [List.length_replicate]; exact hr, fun j hj => ?_⟩, fun j hj => ?_, fun i j hi hj hij => .inl rfl⟩
    · rw [List.length_replicate] at hj
      rw [hv]
      simp [hj]
    · rw [hv]
      exact Row.nil _ _ _ _
  refine H.set hi (Gx.refl _ w) (fun q hq => ?_) (fun q hq => (o.foot hq).2) (vvi_kept o)
  rcases hq with hq | ⟨l, hl, hq⟩
  · exact .inl hq
  · cases hq
section
variable {P : Program} {k : Value → World → Prop} {w0 w : World} {L : List Thing}
/-- A store of one value into one slice among slices. -/
theorem storeVV (H : Apt w0 w L) (i j : Nat) {t e1 e2 m c : Nat} {X : Option Addr} {ls : List (List Value)} {ps : Nat → Option Addr × Nat} {v : Value} (hi : L[i]? = some (vvi e1 e2 X c ls ps)) (he : e1 ≠ e2) (hs : szOf P t 1) (hv : v.cells.toList = [v]) (h1 : v.oneCell' = true) (hj : j < ls.length) (hm : m < (vls ls j).length)
    (h : ∀ w', Apt w0 w' (L.set i (vvi e1 e2 X c (ls.set j ((vls ls j).set m v)) ps)) → k undef w') : Do P (sStore t (.pointer (some ((ad (ps j).1).add m))) v) k w := by
  have o := H.vv i hi
  refine do_store_row hs hv h1 (o.own j hj) (by omega) fun w' g hsz hr => ?_
  have o' := o.put he hj hr g
  refine h w' (H.set hi (gx_of g fun q hq => .inr ⟨j, hj, hq⟩) (fun q hq => .inl ?_) (fun q hq => (o'.foot hq).2) (vvi_kept o'))
  rcases hq with hq | ⟨l, hl, hq⟩
  · exact .inl hq
  · rw [List.length_set] at hl
    exact .inr ⟨l, hl, hq⟩
/-- A store of an owned slice into a row of slices. -/
theorem setRowVV (H : Apt w0 w L) (i j x : Nat) (hij : i ≠ j) {t e1 e2 c d n : Nat} {X Y : Option Addr} {ls : List (List Value)} {l : List Value} {ps : Nat → Option Addr × Nat} (hi : L[i]? = some (vvi e1 e2 X c ls ps)) (hj : L[j]? = some (rwi e2 1 Y n d l)) (hn : n = l.length) (he : e1 ≠ e2) (hs : szOf P t 1) (hx : x < ls.length)
    (h : ∀ w' ps', Apt w0 w' ((L.set i (vvi e1 e2 X c (ls.set x l) ps')).set j emp) → k undef w') : Do P (sStore t (.pointer (some ((ad X).add x))) (.slice Y n d)) k w := by
  subst hn
  have o := H.vv i hi
  obtain ⟨⟨cells, hr0, hc⟩, _⟩ := id o
  refine do_store_row hs rfl rfl hr0 (by omega) fun w' g hsz hr => ?_
  have o' := o.setRow he hx (H.row j hj) (fun m hm => by
    cases hq : blk (ps m).1 with
    | none => exact .inl rfl
    | some q => exact .inr fun e => H.two i j _ _ hij hi hj q (.inr ⟨m, hm, hq⟩) (show blk Y = some q from e.symm)) hr0 hc hr g
  refine h w' _ (H.join hij hi hj (gx_of g fun q hq => .inl (.inl hq)) (fun q hq => ?_) (fun q hq => (o'.foot hq).2) (vvi_kept o'))
  rcases hq with hq | ⟨m, hm, hq⟩
  · exact .inl (.inl hq)
  · rw [List.length_set] at hm
    by_cases e : m = x
    · simp only [e, if_true] at hq
      exact .inr (.inl hq)
    · simp only [e, if_false] at hq
      exact .inl (.inr ⟨m, hm, hq⟩)
end
end Go.Sh

/- Plain: what derives what, by passes until nothing changes. -/
set_option linter.unusedVariables false
set_option linter.unusedSimpArgs false
namespace Go.Sh
/-! A table of what derives what: nonterminal, from, to. -/
abbrev Tab := Nat → Nat → Nat → Bool
def Tab.put (T : Tab) (x i j : Nat) : Tab := fun a b c => if a = x ∧ b = i ∧ c = j then true else T a b c
def symT (T : Tab) (w : List Int) (x : Int) (i j : Nat) : Bool := if x < 0 then decide (j = i + 1) && decide (w.getD i 0 = -1 - x) else T x.toNat i j
def fitsT (T : Tab) (w : List Int) : List Int → Nat → Nat → Bool
  | [], i, j => decide (i = j)
  | x :: xs, i, j => (List.range' i (j + 1 - i)).any fun m => symT T w x i m && fitsT T w xs m j
theorem fits_tok {T : Tab} {w : List Int} {x : Int} {xs : List Int} {i j : Nat} (hx : x < 0) : fitsT T w (x :: xs) i j = (decide (i < j) && (decide (w.getD i 0 = -1 - x) && fitsT T w xs (i + 1) j)) := by
  rw [Bool.eq_iff_iff]
  simp only [fitsT, symT, hx, if_true, List.any_eq_true, List.mem_range'_1, Bool.and_eq_true, decide_eq_true_eq]
  constructor
  · rintro ⟨m, ⟨h1, h2⟩, ⟨rfl, h4⟩, h5⟩
    exact ⟨by omega, h4, h5⟩
  · rintro ⟨h1, h2, h3⟩
    exact ⟨i + 1, ⟨by omega, by omega⟩, ⟨rfl, h2⟩, h3⟩
theorem fits_non {T : Tab} {w : List Int} {x : Int} {xs : List Int} {i j : Nat} (hx : ¬ x < 0) : fitsT T w (x :: xs) i j = (List.range' i (j + 1 - i)).any fun m => T x.toNat i m && fitsT T w xs m j := by
  simp only [fitsT, symT, hx, if_false]
/-- Whether a place ahead of one holds. -/
theorem any_upto {p : Nat → Bool} {i j : Nat} (h : ∀ m, i ≤ m → m ≤ j → p m = false) : (List.range' i (j + 1 - i)).any p = false := by
  rw [List.any_eq_false]
  intro m hm
  rw [List.mem_range'_1] at hm
  rw [h m hm.1 (by omega)]
  decide
theorem any_at {p : Nat → Bool} {i j m : Nat} (h1 : i ≤ m) (h2 : m ≤ j) (h : p m = true) : (List.range' i (j + 1 - i)).any p = true := by
  rw [List.any_eq_true]
  exact ⟨m, List.mem_range'_1.2 ⟨h1, by omega⟩, h⟩

/-! One pass over all rules and places. -/
abbrev TS := Tab × Bool
def stepT (w : List Int) (r : Int × List Int) (i : Nat) (s : TS) (j : Nat) : TS := if !s.1 r.1.toNat i j && fitsT s.1 w r.2 i j then (s.1.put r.1.toNat i j, true) else s
def rowT (w : List Int) (r : Int × List Int) (s : TS) (i : Nat) : TS := (List.range' i (w.length + 1 - i)).foldl (stepT w r i) s
def ruleT (w : List Int) (s : TS) (r : Int × List Int) : TS := (List.range (w.length + 1)).foldl (rowT w r) s
def passT (rs : List (Int × List Int)) (w : List Int) (s : TS) : TS := rs.foldl (ruleT w) s
def cellT (T : Tab) (p : Nat) : Bool := T (p / 121) (p / 11 % 11) (p % 11)
def openT (T : Tab) : Nat := (List.range 726).countP fun p => !cellT T p
theorem count_le {α : Type} {p q : α → Bool} {l : List α} (h : ∀ a ∈ l, p a = true → q a = true) : l.countP p ≤ l.countP q := List.countP_mono_left h
theorem count_lt {α : Type} {p q : α → Bool} {l : List α} (h : ∀ a ∈ l, p a = true → q a = true) {b : α} (hb : b ∈ l) (hq : q b = true) (hp : p b = false) : l.countP p < l.countP q := by
  induction l with
  | nil => cases hb
  | cons a l ih =>
    have ht : ∀ a ∈ l, p a = true → q a = true := fun x hx => h x (List.mem_cons_of_mem _ hx)
    rw [List.countP_cons, List.countP_cons]
    rcases List.mem_cons.1 hb with rfl | hb
    · have := count_le ht
      rw [hp, hq]
      simp
      omega
    · have := ih ht hb
      have ha := h a (List.mem_cons_self ..)
      by_cases hpa : p a = true
      · rw [if_pos hpa, if_pos (ha hpa)]
        omega
      · rw [if_neg hpa]
        split <;> omega
theorem open_put {T : Tab} {x i j : Nat} (hx : x < 6) (hi : i < 11) (hj : j < 11) (h : T x i j = false) : openT (T.put x i j) < openT T := by
  unfold openT
  refine count_lt (b := x * 121 + i * 11 + j) (fun p hp hh => ?_) (List.mem_range.2 (by omega)) ?_ ?_
  · simp only [cellT, Tab.put, Bool.not_eq_true'] at hh ⊢
    split at hh
    · cases hh
    · exact hh
  · have e1 : (x * 121 + i * 11 + j) / 121 = x := by omega
    have e2 : (x * 121 + i * 11 + j) / 11 % 11 = i := by omega
    have e3 : (x * 121 + i * 11 + j) % 11 = j := by omega
    simp [cellT, e1, e2, e3, h]
  · have e1 : (x * 121 + i * 11 + j) / 121 = x := by omega
    have e2 : (x * 121 + i * 11 + j) / 11 % 11 = i := by omega
    have e3 : (x * 121 + i * 11 + j) % 11 = j := by omega
    simp [cellT, Tab.put, e1, e2, e3]
def Inc (s s' : TS) : Prop := s' = s ∨ (s'.2 = true ∧ openT s'.1 < openT s.1)
theorem Inc.refl (s : TS) : Inc s s := .inl rfl
theorem Inc.trans {a b c : TS} (h : Inc a b) (g : Inc b c) : Inc a c := by
  rcases h with rfl | ⟨h1, h2⟩
  · exact g
  · rcases g with rfl | ⟨g1, g2⟩
    · exact .inr ⟨h1, h2⟩
    · exact .inr ⟨g1, by omega⟩
theorem Inc.fold {α : Type} {f : TS → α → TS} {l : List α} (h : ∀ a ∈ l, ∀ s, Inc s (f s a)) : ∀ s, Inc s (l.foldl f s) := by
  induction l with
  | nil => exact fun s => Inc.refl s
  | cons a l ih =>
    intro s
    exact (h a (List.mem_cons_self ..) s).trans (ih (fun b hb => h b (List.mem_cons_of_mem _ hb)) _)
theorem stepT_inc {w : List Int} {r : Int × List Int} {i j : Nat} {s : TS} (hr : r.1.toNat < 6) (hi : i < 11) (hj : j < 11) : Inc s (stepT w r i s j) := by
  unfold stepT
  split
  · rename_i h
    simp only [Bool.and_eq_true, Bool.not_eq_true'] at h
    exact .inr ⟨rfl, open_put hr hi hj h.1⟩
  · exact .inl rfl
theorem rowT_inc {w : List Int} {r : Int × List Int} {i : Nat} (hr : r.1.toNat < 6) (hw : w.length ≤ 10) (hi : i < 11) (s : TS) : Inc s (rowT w r s i) :=
  Inc.fold (fun j hj s => by
    rw [List.mem_range'_1] at hj
    exact stepT_inc hr hi (by omega)) s
theorem ruleT_inc {w : List Int} {r : Int × List Int} (hr : r.1.toNat < 6) (hw : w.length ≤ 10) (s : TS) : Inc s (ruleT w s r) :=
  Inc.fold (fun i hi s => rowT_inc hr hw (by have := List.mem_range.1 hi; omega) s) s
theorem passT_inc {rs : List (Int × List Int)} {w : List Int} (hr : ∀ r ∈ rs, r.1.toNat < 6) (hw : w.length ≤ 10) (s : TS) : Inc s (passT rs w s) :=
  Inc.fold (fun r h s => ruleT_inc (hr r h) hw s) s
/-- Passes until nothing changes. -/
inductive Span (rs : List (Int × List Int)) (w : List Int) : Tab → Tab → Prop
  | done {T : Tab} : (passT rs w (T, false)).2 = false → Span rs w T (passT rs w (T, false)).1
  | more {T U : Tab} : (passT rs w (T, false)).2 = true → Span rs w (passT rs w (T, false)).1 U → Span rs w T U
theorem Span.det {rs : List (Int × List Int)} {w : List Int} {T U V : Tab} (h : Span rs w T U) (g : Span rs w T V) : U = V := by
  induction h with
  | done h1 =>
    cases g with
    | done g1 => rfl
    | more g1 g2 => rw [h1] at g1; cases g1
  | more h1 h2 ih =>
    cases g with
    | done g1 => rw [h1] at g1; cases g1
    | more g1 g2 => exact ih g2
theorem Span.ex {rs : List (Int × List Int)} {w : List Int} (hr : ∀ r ∈ rs, r.1.toNat < 6) (hw : w.length ≤ 10) : ∀ (n : Nat) (T : Tab), openT T ≤ n → ∃ U, Span rs w T U := by
  intro n
  induction n with
  | zero =>
    intro T hT
    rcases passT_inc hr hw (T, false) with h | ⟨_, h⟩
    · exact ⟨_, .done (by rw [h])⟩
    · exact absurd h (by simp at hT ⊢; omega)
  | succ n ih =>
    intro T hT
    rcases passT_inc hr hw (T, false) with h | ⟨h1, h2⟩
    · exact ⟨_, .done (by rw [h])⟩
    · obtain ⟨U, hU⟩ := ih (passT rs w (T, false)).1 (by simp at h2; omega)
      exact ⟨U, .more h1 hU⟩
def noTab : Tab := fun _ _ _ => false
open Classical in
noncomputable def spanT (rs : List (Int × List Int)) (w : List Int) : Tab := if h : ∃ U, Span rs w noTab U then Classical.choose h else noTab
theorem Span.eq {rs : List (Int × List Int)} {w : List Int} {U : Tab} (h : Span rs w noTab U) : U = spanT rs w := by
  have hx : ∃ U, Span rs w noTab U := ⟨U, h⟩
  unfold spanT
  rw [dif_pos hx]
  exact h.det (Classical.choose_spec hx)
/-- Whether a word is of the language. -/
noncomputable def inL (rs : List (Int × List Int)) (w : List Int) : Bool := spanT rs w 0 0 w.length
end Go.Sh

/- Be: bodies of functions as terms of the frame calculus, printed by shgen.py of this repository. -/
set_option linter.unusedVariables false
set_option maxRecDepth 100000
namespace Go.Proofs.Ytegcjkhebecgbaa
open Go Go.Sh

/-! loop.example/g00758/spec.PumpOf -/
/-! loop.example/g00758/impl.PumpOf -/
def pl110 : Plans := fun i => match i with
  | 7 => ⟨false, [24], .step 0 .any (.step 1 .any (.step 2 .any (.step 3 .held (.step 4 .any (.step 5 .any (.step 6 .any (.step 7 .held (.step 8 .any (.step 9 .any (.step 10 .any (.step 11 .held (.step 12 .any (.step 13 .any (.step 14 .any (.step 15 .held (.step 16 .any (.step 17 .any (.step 18 .any (.step 19 .held (.step 20 .any (.step 21 .any (.step 22 .any (.step 23 .held (.step 24 .last (.step 25 .any (.step 26 .any (.nil)))))))))))))))))))))))))))⟩
  | _ => ⟨false, [], .nil⟩
def S110 (v0 v1 : Value) (k : Value → World → Prop) (w : World) : Prop :=
 Do Try.prog (sBox 26 v0) (fun t1 w2 =>
 Rd Try.prog (WS.at w2) (sLoad 26 t1) fun t3 =>
 CallK Try.prog 221 [t3, v1] (fun t4 w5 =>
 Rd Try.prog (WS.at w5) (sExtract t4 0) fun t6 =>
 Rd Try.prog (WS.at w5) (sExtract t4 1) fun t7 =>
 Rd Try.prog (WS.at w5) (sExtract t4 2) fun t8 =>
 Rd Try.prog (WS.at w5) (sUn .not t8) fun t9 =>
 CondK t9
  (k (.tuple #[(.slice none 0 0), (.bool false)]) w5)
  (CallK Try.prog 222 [t6] (fun t10 w11 =>
  Rd Try.prog (WS.at w11) (sExtract t10 0) fun t12 =>
  Rd Try.prog (WS.at w11) (sExtract t10 1) fun t13 =>
  Rd Try.prog (WS.at w11) (sBin .eql 151 true t12 (.pointer none)) fun t14 =>
  CondK t14
   (k (.tuple #[(.slice none 0 0), (.bool false)]) w11)
   (Rd Try.prog WS.any (sNilCheck t12) fun t15 =>
   Rd Try.prog WS.any (sFieldAddr 156 t15 2) fun t16 =>
   Rd Try.prog (WS.at w11.drew) (sLoad 3 t16) fun t17 =>
   Rd Try.prog WS.any (sNilCheck t13) fun t18 =>
   Rd Try.prog WS.any (sFieldAddr 156 t18 2) fun t19 =>
   Rd Try.prog (WS.at w11.drew) (sLoad 3 t19) fun t20 =>
   Rd Try.prog WS.any (sNilCheck t12) fun t21 =>
   Rd Try.prog WS.any (sFieldAddr 156 t21 4) fun t22 =>
   Rd Try.prog (WS.at w11.drew) (sLoad 3 t22) fun t23 =>
   Rd Try.prog WS.any (sNilCheck t13) fun t24 =>
   Rd Try.prog WS.any (sFieldAddr 156 t24 4) fun t25 =>
   Rd Try.prog (WS.at w11.drew) (sLoad 3 t25) fun t26 =>
   Rd Try.prog WS.any (sNilCheck t13) fun t27 =>
   Rd Try.prog WS.any (sFieldAddr 156 t27 5) fun t28 =>
   Rd Try.prog (WS.at w11.drew) (sLoad 3 t28) fun t29 =>
   Rd Try.prog WS.any (sNilCheck t12) fun t30 =>
   Rd Try.prog WS.any (sFieldAddr 156 t30 5) fun t31 =>
   Rd Try.prog (WS.at w11.drew) (sLoad 3 t31) fun t32 =>
   Do Try.prog (sBuildSlice 27 6 [(0, t17), (1, t20), (2, t23), (3, t26), (4, t29), (5, t32)]) (fun t33 w34 =>
   k (.tuple #[t33, (.bool true)]) w34) w11.drew)) w5)) w2) w
theorem body110 : Try.f110.body = some (bodyOf Try.f110) := by kernel_rfl
theorem same110 (v0 v1 : Value) (k : Value → World → Prop) (w : World) : wpF Try.prog pl110 (bodyOf Try.f110) (bodyQ Try.prog Try.f110.results.toList k) (initF [v0, v1]) w = S110 v0 v1 k w := by kernel_rfl
theorem enter110 {v0 v1 : Value} {k : Value → World → Prop} {w : World} (h : S110 v0 v1 k w) : CallK Try.prog 110 [v0, v1] k w :=
  call_of_wpF (pl := pl110) mixed Try.func110 body110 (by kernel_rfl) (of_decide_eq_true (by kernel_rfl)) (by kernel_rfl) (by kernel_rfl) (Eq.mpr (same110 v0 v1 k w) h)

/-! loop.example/g00758/spec.PathIn -/
/-! loop.example/g00758/impl.PathIn -/
/-! loop.example/g00758/spec.PumpTree -/
/-! loop.example/g00758/impl.PumpTree -/
/-! loop.example/g00758/spec.l18Asked -/
/-! loop.example/g00758/spec.l18Pump -/
/-! (loop.example/g00758/impl.Grammar).whole -/
def pl221 : Plans := fun i => match i with
  | 4 => ⟨false, [], .step 0 .any (.step 1 .any (.step 2 .any (.step 3 .any (.step 4 .any (.step 5 .any (.step 6 .any (.step 7 .held (.step 8 .any (.step 9 .any (.step 10 .any (.step 11 .any (.step 12 .any (.step 13 .any (.step 14 .any (.nil)))))))))))))))⟩
  | _ => ⟨false, [], .nil⟩
def S221 (v0 v1 : Value) (k : Value → World → Prop) (w : World) : Prop :=
 Do Try.prog (sBox 26 v0) (fun t1 w2 =>
 Rd Try.prog (WS.at w2) (sLoad 26 t1) fun t3 =>
 CallK Try.prog 148 [t3] (fun t4 w5 =>
 Rd Try.prog (WS.at w5) (sUn .not t4) fun t6 =>
 GuardK t6 false (fun k w' => k v1 w') (fun t7 w8 =>
 GuardK t6 false (fun k w' => Rd Try.prog (WS.at w8) (sBuiltin .len #[27] 3 [false] [t7]) fun v => k v w') (fun t9 w10 =>
 GuardK t6 false (fun k w' => Rd Try.prog (WS.at w10) (sBin .gtr 3 true t9 (.int .i64 60)) fun v => k v w') (fun t11 w12 =>
 Rd Try.prog (WS.at w12) (sPick t6 (.bool true) t11) fun t13 =>
 CondK t13
  (k (.tuple #[(.pointer none), (.slice none 0 0), (.bool false)]) w12)
  (Rd Try.prog (WS.at w12) (sLoad 26 t1) fun t14 =>
  CallK Try.prog 179 [t14, (.int .i64 0), v1] (fun t15 w16 =>
  Rd Try.prog (WS.at w16) (sExtract t15 0) fun t17 =>
  Rd Try.prog (WS.at w16) (sExtract t15 1) fun t18 =>
  Rd Try.prog (WS.at w16) (sExtract t15 2) fun t19 =>
  GuardK t19 true (fun k w' => k t17 w') (fun t20 w21 =>
  GuardK t19 true (fun k w' => Rd Try.prog WS.any (sNilCheck t20) fun v => k v w') (fun t22 w23 =>
  GuardK t19 true (fun k w' => Rd Try.prog WS.any (sFieldAddr 156 t22 3) fun v => k v w') (fun t24 w25 =>
  GuardK t19 true (fun k w' => Rd Try.prog (WS.at w16.drew) (sLoad 3 t24) fun v => k v w') (fun t26 w27 =>
  GuardK t19 true (fun k w' => k v1 w') (fun t28 w29 =>
  GuardK t19 true (fun k w' => Rd Try.prog WS.any (sBuiltin .len #[27] 3 [false] [t28]) fun v => k v w') (fun t30 w31 =>
  GuardK t19 true (fun k w' => Rd Try.prog WS.any (sBin .eql 3 false t26 t30) fun v => k v w') (fun t32 w33 =>
  Rd Try.prog WS.any (sPick t19 t32 (.bool false)) fun t34 =>
  k (.tuple #[t17, t18, t34]) w33) w31) w29) w27) w25) w23) w21) w16.drew) w12)) w10) w8) w5) w2) w
theorem body221 : Try.f221.body = some (bodyOf Try.f221) := by kernel_rfl
theorem same221 (v0 v1 : Value) (k : Value → World → Prop) (w : World) : wpF Try.prog pl221 (bodyOf Try.f221) (bodyQ Try.prog Try.f221.results.toList k) (initF [v0, v1]) w = S221 v0 v1 k w := by kernel_rfl
theorem enter221 {v0 v1 : Value} {k : Value → World → Prop} {w : World} (h : S221 v0 v1 k w) : CallK Try.prog 221 [v0, v1] k w :=
  call_of_wpF (pl := pl221) mixed Try.func221 body221 (by kernel_rfl) (of_decide_eq_true (by kernel_rfl)) (by kernel_rfl) (by kernel_rfl) (Eq.mpr (same221 v0 v1 k w) h)

/-! (*loop.example/g00758/impl.part).pump -/
def pl222 : Plans := fun i => match i with
  | 7 => ⟨false, [], .step 0 .any (.step 1 .any (.step 2 .any (.step 3 .held (.step 4 .any (.step 5 .any (.step 6 .any (.step 7 .held (.step 8 .any (.step 9 .any (.step 10 .any (.step 11 .any (.step 12 .any (.step 13 .held (.step 14 .any (.step 15 .any (.step 16 .any (.step 17 .held (.step 18 .any (.step 19 .any (.step 20 .any (.step 21 .any (.step 22 .any (.step 23 .held (.step 24 .any (.step 25 .any (.step 26 .any (.step 27 .held (.step 28 .any (.step 29 .any (.step 30 .any (.nil)))))))))))))))))))))))))))))))⟩
  | _ => ⟨false, [], .nil⟩
def S222 (v0 : Value) (k : Value → World → Prop) (w : World) : Prop :=
 CallK Try.prog 227 [v0] (fun t1 w2 =>
 Rd Try.prog (WS.at w2) (sBuiltin .len #[154] 3 [false] [t1]) fun t3 =>
 LoopF [12, 13, 14, 5, 15, 16, 17, 18, 19, 20, 21, 22, 7, 23, 24, 25, 26, 27, 28, 29, 30, 31, 32, 33, 34, 35, 36, 37, 38, 39, 40, 41, 42, 43, 44, 45, 46, 47, 48, 49, 50, 51, 52, 53, 54, 55, 2, 3, 56, 19, 57, 11] (fun Q4 f5 w6 =>
  Rd Try.prog (WS.at w6) (sBin .lss 3 false (f5 11) (f5 10)) fun t7 =>
  CondK t7
   (Rd Try.prog (WS.at w6) (sIndexAddr 154 (f5 9) (f5 11)) fun t8 =>
   Rd Try.prog (WS.at w6) (sLoad 151 t8) fun t9 =>
   CallK Try.prog 227 [t9] (fun t10 w11 =>
   Rd Try.prog (WS.at w11) (sSlice 154 t10 (some (.int .i64 1)) none none) fun t12 =>
   Rd Try.prog (WS.at w11) (sBuiltin .len #[154] 3 [false] [t12]) fun t13 =>
   LoopF [20, 21, 22, 7, 23, 24, 25, 26, 27, 28, 29, 30, 31, 32, 33, 34, 35, 36, 37, 38, 39, 40, 41, 42, 43, 44, 45, 46, 47, 48, 49, 50, 51, 52, 53, 54, 55, 2, 3, 56, 19] (fun Q14 f15 w16 =>
    Rd Try.prog (WS.at w16) (sBin .lss 3 false (f15 19) (f15 18)) fun t17 =>
    CondK t17
     (Rd Try.prog (WS.at w16) (sIndexAddr 154 (f15 17) (f15 19)) fun t18 =>
     Rd Try.prog (WS.at w16) (sLoad 151 t18) fun t19 =>
     Rd Try.prog WS.any (sNilCheck (f15 5)) fun t20 =>
     Rd Try.prog WS.any (sFieldAddr 156 t20 0) fun t21 =>
     Rd Try.prog (WS.at w16.drew) (sLoad 3 t21) fun t22 =>
     Rd Try.prog WS.any (sNilCheck t19) fun t23 =>
     Rd Try.prog WS.any (sFieldAddr 156 t23 0) fun t24 =>
     Rd Try.prog (WS.at w16.drew) (sLoad 3 t24) fun t25 =>
     Rd Try.prog WS.any (sBin .eql 3 false t22 t25) fun t26 =>
     GuardK t26 true (fun k w' => k (f15 5) w') (fun t27 w28 =>
     GuardK t26 true (fun k w' => Rd Try.prog WS.any (sNilCheck t27) fun v => k v w') (fun t29 w30 =>
     GuardK t26 true (fun k w' => Rd Try.prog WS.any (sFieldAddr 156 t29 4) fun v => k v w') (fun t31 w32 =>
     GuardK t26 true (fun k w' => Rd Try.prog (WS.at w16.drew) (sLoad 3 t31) fun v => k v w') (fun t33 w34 =>
     GuardK t26 true (fun k w' => k t19 w') (fun t35 w36 =>
     GuardK t26 true (fun k w' => Rd Try.prog WS.any (sNilCheck t35) fun v => k v w') (fun t37 w38 =>
     GuardK t26 true (fun k w' => Rd Try.prog WS.any (sFieldAddr 156 t37 4) fun v => k v w') (fun t39 w40 =>
     GuardK t26 true (fun k w' => Rd Try.prog (WS.at w16.drew) (sLoad 3 t39) fun v => k v w') (fun t41 w42 =>
     GuardK t26 true (fun k w' => Rd Try.prog WS.any (sBin .neq 3 false t33 t41) fun v => k v w') (fun t43 w44 =>
     GuardK t26 true (fun k w' => k t43 w') (fun t45 w46 =>
     GuardK t45 false (fun k w' => k (f15 5) w') (fun t47 w48 =>
     GuardK t45 false (fun k w' => Rd Try.prog WS.any (sNilCheck t47) fun v => k v w') (fun t49 w50 =>
     GuardK t45 false (fun k w' => Rd Try.prog WS.any (sFieldAddr 156 t49 5) fun v => k v w') (fun t51 w52 =>
     GuardK t45 false (fun k w' => Rd Try.prog (WS.at w16.drew) (sLoad 3 t51) fun v => k v w') (fun t53 w54 =>
     GuardK t45 false (fun k w' => k t19 w') (fun t55 w56 =>
     GuardK t45 false (fun k w' => Rd Try.prog WS.any (sNilCheck t55) fun v => k v w') (fun t57 w58 =>
     GuardK t45 false (fun k w' => Rd Try.prog WS.any (sFieldAddr 156 t57 5) fun v => k v w') (fun t59 w60 =>
     GuardK t45 false (fun k w' => Rd Try.prog (WS.at w16.drew) (sLoad 3 t59) fun v => k v w') (fun t61 w62 =>
     GuardK t45 false (fun k w' => Rd Try.prog WS.any (sBin .neq 3 false t53 t61) fun v => k v w') (fun t63 w64 =>
     GuardK t26 true (fun k w' => Rd Try.prog WS.any (sPick t45 (.bool true) t63) fun v => k v w') (fun t65 w66 =>
     Rd Try.prog WS.any (sPick t26 t65 (.bool false)) fun t67 =>
     CondK t67
      (Q14 .ret (F.upd (F.upd (F.upd (F.upd (F.upd (F.upd (F.upd (F.upd (F.upd (F.upd (F.upd (F.upd (F.upd (F.upd (F.upd (F.upd (F.upd (F.upd (F.upd (F.upd (F.upd (F.upd (F.upd (F.upd (F.upd (F.upd (F.upd (F.upd (F.upd (F.upd (F.upd (F.upd (F.upd (F.upd (F.upd (F.upd (F.upd (F.upd (F.upd f15 20 t17) 21 t18) 22 t19) 7 t19) 23 (f15 5)) 24 t20) 25 t21) 26 t22) 27 t19) 28 t23) 29 t24) 30 t25) 31 t26) 32 t26) 33 t27) 34 t29) 35 t31) 36 t33) 37 t35) 38 t37) 39 t39) 40 t41) 41 t43) 42 t45) 43 t47) 44 t49) 45 t51) 46 t53) 47 t55) 48 t57) 49 t59) 50 t61) 51 t63) 52 t65) 53 t67) 54 (f15 5)) 55 t19) 2 (f15 5)) 3 t19) w66)
      (Rd Try.prog (WS.at w66) (sBin .add 3 true (f15 19) (.int .i64 1)) fun t68 =>
      Q14 .normal (F.upd (F.upd (F.upd (F.upd (F.upd (F.upd (F.upd (F.upd (F.upd (F.upd (F.upd (F.upd (F.upd (F.upd (F.upd (F.upd (F.upd (F.upd (F.upd (F.upd (F.upd (F.upd (F.upd (F.upd (F.upd (F.upd (F.upd (F.upd (F.upd (F.upd (F.upd (F.upd (F.upd (F.upd (F.upd (F.upd (F.upd f15 20 t17) 21 t18) 22 t19) 7 t19) 23 (f15 5)) 24 t20) 25 t21) 26 t22) 27 t19) 28 t23) 29 t24) 30 t25) 31 t26) 32 t26) 33 t27) 34 t29) 35 t31) 36 t33) 37 t35) 38 t37) 39 t39) 40 t41) 41 t43) 42 t45) 43 t47) 44 t49) 45 t51) 46 t53) 47 t55) 48 t57) 49 t59) 50 t61) 51 t63) 52 t65) 53 t67) 56 t68) 19 t68) w66)) w64) w62) w60) w58) w56) w54) w52) w50) w48) w46) w44) w42) w40) w38) w36) w34) w32) w30) w28) w16.drew)
     (Q14 (.exit 2) (F.upd f15 20 t17) w16))
    (blockQ 2 (blockQ 1 (seqQ (fun f69 w70 =>
   Rd Try.prog (WS.at w70) (sBin .add 3 true (f69 11) (.int .i64 1)) fun t71 =>
   Q4 .normal (F.upd (F.upd f69 57 t71) 11 t71) w70) Q4)))
    (F.upd (F.upd (F.upd (F.upd (F.upd (F.upd (F.upd (F.upd (F.upd f5 12 t7) 13 t8) 14 t9) 5 t9) 15 t9) 16 t10) 17 t12) 18 t13) 19 (.int .i64 0)) w11) w6)
   (Q4 (.exit 0) (F.upd f5 12 t7) w6))
  (blockQ 0 (seqQ (fun f72 w73 =>
 k (.tuple #[(.pointer none), (.pointer none)]) w73) (bodyQ Try.prog [.tmp 2, .tmp 3] k)))
  (F.upd (F.upd (F.upd (F.upd (F.upd (F.upd (initF [v0]) 2 (.pointer none)) 3 (.pointer none)) 8 v0) 9 t1) 10 t3) 11 (.int .i64 0)) w2) w
theorem body222 : Try.f222.body = some (bodyOf Try.f222) := by kernel_rfl
theorem same222 (v0 : Value) (k : Value → World → Prop) (w : World) : wpF Try.prog pl222 (bodyOf Try.f222) (bodyQ Try.prog Try.f222.results.toList k) (initF [v0]) w = S222 v0 k w := by kernel_rfl
theorem enter222 {v0 : Value} {k : Value → World → Prop} {w : World} (h : S222 v0 k w) : CallK Try.prog 222 [v0] k w :=
  call_of_wpF (pl := pl222) mixed Try.func222 body222 (by kernel_rfl) (of_decide_eq_true (by kernel_rfl)) (by kernel_rfl) (by kernel_rfl) (Eq.mpr (same222 v0 k w) h)

/-! loop.example/g00758/spec.l18Parts -/
/-! (*loop.example/g00758/impl.part).parts -/
def pl227 : Plans := fun _ => ⟨false, [], .nil⟩
def S227 (v0 : Value) (k : Value → World → Prop) (w : World) : Prop :=
 Do Try.prog (sBuildSlice 154 1 [(0, v0)]) (fun t1 w2 =>
 Rd Try.prog (WS.at w2) (sNilCheck v0) fun t3 =>
 Rd Try.prog (WS.at w2) (sFieldAddr 156 t3 6) fun t4 =>
 Rd Try.prog (WS.at w2) (sLoad 154 t4) fun t5 =>
 Rd Try.prog (WS.at w2) (sBuiltin .len #[154] 3 [false] [t5]) fun t6 =>
 LoopF [14, 15, 16, 5, 17, 18, 19, 20, 3, 21, 13] (fun Q7 f8 w9 =>
  Rd Try.prog (WS.at w9) (sBin .lss 3 false (f8 13) (f8 12)) fun t10 =>
  CondK t10
   (Rd Try.prog (WS.at w9) (sIndexAddr 154 (f8 11) (f8 13)) fun t11 =>
   Rd Try.prog (WS.at w9) (sLoad 151 t11) fun t12 =>
   CallK Try.prog 227 [t12] (fun t13 w14 =>
   Do Try.prog (sBuiltin .append #[154, 154] 154 [false, false] [(f8 3), t13]) (fun t15 w16 =>
   Rd Try.prog (WS.at w16) (sBin .add 3 true (f8 13) (.int .i64 1)) fun t17 =>
   Q7 .normal (F.upd (F.upd (F.upd (F.upd (F.upd (F.upd (F.upd (F.upd (F.upd (F.upd (F.upd f8 14 t10) 15 t11) 16 t12) 5 t12) 17 (f8 3)) 18 t12) 19 t13) 20 t15) 3 t15) 21 t17) 13 t17) w16) w14) w9)
   (Q7 (.exit 0) (F.upd f8 14 t10) w9))
  (blockQ 0 (seqQ (fun f18 w19 =>
 k (f18 3) w19) (bodyQ Try.prog [.tmp 2] k)))
  (F.upd (F.upd (F.upd (F.upd (F.upd (F.upd (F.upd (F.upd (F.upd (F.upd (initF [v0]) 2 (.slice none 0 0)) 6 v0) 7 t1) 3 t1) 8 v0) 9 t3) 10 t4) 11 t5) 12 t6) 13 (.int .i64 0)) w2) w
theorem body227 : Try.f227.body = some (bodyOf Try.f227) := by kernel_rfl
theorem same227 (v0 : Value) (k : Value → World → Prop) (w : World) : wpF Try.prog pl227 (bodyOf Try.f227) (bodyQ Try.prog Try.f227.results.toList k) (initF [v0]) w = S227 v0 k w := by kernel_rfl
theorem enter227 {v0 : Value} {k : Value → World → Prop} {w : World} (h : S227 v0 k w) : CallK Try.prog 227 [v0] k w :=
  call_of_wpF (pl := pl227) mixed Try.func227 body227 (by kernel_rfl) (of_decide_eq_true (by kernel_rfl)) (by kernel_rfl) (by kernel_rfl) (Eq.mpr (same227 v0 k w) h)

/-! loop.example/g00758/spec.l11Asked -/
/-! loop.example/g00758/spec.l11Is -/
/-! (loop.example/g00758/impl.Grammar).tree -/
def pl179 : Plans := fun i => match i with
  | 5 => ⟨false, [], .step 0 .any (.step 1 .held (.step 2 .any (.step 3 .any (.step 4 .any (.step 5 .any (.nil))))))⟩
  | _ => ⟨false, [], .nil⟩
def S179 (v0 v1 v2 : Value) (k : Value → World → Prop) (w : World) : Prop :=
 Do Try.prog (sBox 26 v0) (fun t1 w2 =>
 Do Try.prog (sBox 27 v2) (fun t3 w4 =>
 Do Try.prog (sBuildSlice 27 0 []) (fun t5 w6 =>
 Do Try.prog (sAlloc 27) (fun t7 w8 =>
 Do Try.prog (sStore 27 t7 t5) (fun _ w9 =>
 Do Try.prog (sAlloc 220) (fun t10 w11 =>
 Rd Try.prog (WS.at w11) (sMakeFunc (.func 260) [] [t3, t1, t7, t10]) fun t12 =>
 Do Try.prog (sStore 220 t10 t12) (fun _ w13 =>
 Rd Try.prog (WS.at w13) (sLoad 220 t10) fun t14 =>
 Do Try.prog (sCallV t14 [v1, (.int .i64 0)] 221) (fun t15 w16 =>
 Rd Try.prog (WS.at w16) (sExtract t15 0) fun t17 =>
 Rd Try.prog (WS.at w16) (sExtract t15 1) fun t18 =>
 Rd Try.prog (WS.at w16.drew) (sLoad 27 t7) fun t19 =>
 k (.tuple #[t17, t19, t18]) w16.drew) w13) w11) w9) w8) w6) w4) w2) w
theorem body179 : Try.f179.body = some (bodyOf Try.f179) := by kernel_rfl
theorem same179 (v0 v1 v2 : Value) (k : Value → World → Prop) (w : World) : wpF Try.prog pl179 (bodyOf Try.f179) (bodyQ Try.prog Try.f179.results.toList k) (initF [v0, v1, v2]) w = S179 v0 v1 v2 k w := by kernel_rfl
theorem enter179 {v0 v1 v2 : Value} {k : Value → World → Prop} {w : World} (h : S179 v0 v1 v2 k w) : CallK Try.prog 179 [v0, v1, v2] k w :=
  call_of_wpF (pl := pl179) mixed Try.func179 body179 (by kernel_rfl) (of_decide_eq_true (by kernel_rfl)) (by kernel_rfl) (by kernel_rfl) (Eq.mpr (same179 v0 v1 v2 k w) h)

/-! loop.example/g00758/spec.l11End -/
/-! (loop.example/g00758/impl.Grammar).tree$1 -/
def pl260 : Plans := fun i => match i with
  | 1 => ⟨true, [], .step 0 .any (.step 1 .held (.step 2 .any (.step 3 .any (.step 4 .any (.step 5 .held (.step 6 .any (.step 7 .any (.step 8 .held (.step 9 .any (.step 10 .held (.step 11 .any (.step 12 .any (.step 13 .one (.step 14 .any (.step 15 .any (.step 16 .any (.step 17 .any (.step 18 .held (.step 19 .held (.step 20 .any (.step 21 .any (.step 22 .held (.step 23 .any (.step 24 .any (.step 25 .held (.step 26 .any (.step 27 .any (.step 28 .any (.nil)))))))))))))))))))))))))))))⟩
  | 3 => ⟨false, [11], .step 0 .any (.step 1 .held (.step 2 .any (.step 3 .any (.step 4 .held (.step 5 .any (.step 6 .any (.step 7 .any (.step 8 .held (.step 9 .any (.step 10 .any (.step 11 .last (.step 12 .any (.nil)))))))))))))⟩
  | 4 => ⟨false, [], .step 0 .any (.step 1 .held (.step 2 .any (.step 3 .any (.step 4 .any (.step 5 .held (.step 6 .any (.step 7 .any (.step 8 .held (.step 9 .any (.step 10 .any (.nil)))))))))))⟩
  | 8 => ⟨true, [4, 5], .step 0 .held (.step 1 .any (.step 2 .one (.step 3 .one (.step 4 .last (.step 5 .last (.nil))))))⟩
  | 9 => ⟨false, [6], .step 0 .held (.step 1 .any (.step 2 .any (.step 3 .any (.step 4 .any (.step 5 .held (.step 6 .last (.step 7 .any (.step 8 .any (.step 9 .any (.step 10 .any (.step 11 .any (.nil))))))))))))⟩
  | _ => ⟨false, [], .nil⟩
def S260 (v0 v1 v2 v3 v4 v5 : Value) (k : Value → World → Prop) (w : World) : Prop :=
 ∃ S1 : World → Prop, ∃ h2 : S1 w.drew,
 Rd Try.prog ⟨S1, w.drew, h2⟩ (sLoad 27 v2) fun t3 =>
 Rd Try.prog WS.any (sBuiltin .len #[27] 3 [false] [t3]) fun t4 =>
 Rd Try.prog WS.any (sBin .geq 3 false v1 t4) fun t5 =>
 GuardK t5 false (fun k w' => Rd Try.prog ⟨S1, w.drew, h2⟩ (sLoad 27 v2) fun v => k v w') (fun t6 w7 =>
 GuardK t5 false (fun k w' => k v1 w') (fun t8 w9 =>
 GuardK t5 false (fun k w' => Rd Try.prog WS.any (sIndexAddr 27 t6 t8) fun v => k v w') (fun t10 w11 =>
 GuardK t5 false (fun k w' => Rd Try.prog ⟨S1, w.drew, h2⟩ (sLoad 3 t10) fun v => k v w') (fun t12 w13 =>
 GuardK t5 false (fun k w' => Rd Try.prog WS.any (sFieldAddr 26 v3 2) fun v => k v w') (fun t14 w15 =>
 GuardK t5 false (fun k w' => Rd Try.prog ⟨S1, w.drew, h2⟩ (sLoad 24 t14) fun v => k v w') (fun t16 w17 =>
 GuardK t5 false (fun k w' => Rd Try.prog WS.any (sBuiltin .len #[24] 3 [false] [t16]) fun v => k v w') (fun t18 w19 =>
 GuardK t5 false (fun k w' => Rd Try.prog WS.any (sBin .sub 3 true t18 (.int .i64 1)) fun v => k v w') (fun t20 w21 =>
 GuardK t5 false (fun k w' => CallK Try.prog 149 [t12, (.int .i64 0), t20] k w') (fun t22 w23 =>
 S1 w23 ∧ GuardK t5 false (fun k w' => Rd Try.prog WS.any (sUn .not t22) fun v => k v w') (fun t24 w25 =>
 Rd Try.prog WS.any (sPick t5 (.bool true) t24) fun t26 =>
 GuardK t26 false (fun k w' => Rd Try.prog WS.any (sFieldAddr 26 v3 2) fun v => k v w') (fun t27 w28 =>
 GuardK t26 false (fun k w' => Rd Try.prog ⟨S1, w.drew, h2⟩ (sLoad 24 t27) fun v => k v w') (fun t29 w30 =>
 GuardK t26 false (fun k w' => Rd Try.prog ⟨S1, w.drew, h2⟩ (sLoad 27 v2) fun v => k v w') (fun t31 w32 =>
 GuardK t26 false (fun k w' => k v1 w') (fun t33 w34 =>
 GuardK t26 false (fun k w' => Rd Try.prog WS.any (sIndexAddr 27 t31 t33) fun v => k v w') (fun t35 w36 =>
 GuardK t26 false (fun k w' => Rd Try.prog ⟨S1, w.drew, h2⟩ (sLoad 3 t35) fun v => k v w') (fun t37 w38 =>
 GuardK t26 false (fun k w' => Rd Try.prog WS.any (sIndexAddr 24 t29 t37) fun v => k v w') (fun t39 w40 =>
 GuardK t26 false (fun k w' => Rd Try.prog WS.any (sFieldAddr 33 t39 0) fun v => k v w') (fun t41 w42 =>
 GuardK t26 false (fun k w' => Rd Try.prog ⟨S1, w.drew, h2⟩ (sLoad 3 t41) fun v => k v w') (fun t43 w44 =>
 GuardK t26 false (fun k w' => k v0 w') (fun t45 w46 =>
 GuardK t26 false (fun k w' => Rd Try.prog WS.any (sBin .neq 3 false t43 t45) fun v => k v w') (fun t47 w48 =>
 Rd Try.prog WS.any (sPick t26 (.bool true) t47) fun t49 =>
 CondK t49
  (k (.tuple #[(.pointer none), (.bool false)]) w48)
  (Rd Try.prog (WS.at w48.drew) (sLoad 27 v2) fun t50 =>
  Rd Try.prog WS.any (sIndexAddr 27 t50 v1) fun t51 =>
  Rd Try.prog (WS.at w48.drew) (sLoad 3 t51) fun t52 =>
  Rd Try.prog WS.any (sBin .add 3 true v1 (.int .i64 1)) fun t53 =>
  Rd Try.prog (WS.at w48.drew) (sLoad 27 v4) fun t54 =>
  Rd Try.prog WS.any (sBuiltin .len #[27] 3 [false] [t54]) fun t55 =>
  Rd Try.prog WS.any (sBuild 156 [(0, v0), (1, t52), (2, v1), (3, t53), (4, t55)]) fun t56 =>
  Do Try.prog (sBox 156 t56) (fun t57 w58 =>
  Rd Try.prog WS.any (sFieldAddr 26 v3 2) fun t59 =>
  Rd Try.prog (WS.at w58.drew) (sLoad 24 t59) fun t60 =>
  Rd Try.prog WS.any (sNilCheck t57) fun t61 =>
  Rd Try.prog WS.any (sFieldAddr 156 t61 1) fun t62 =>
  Rd Try.prog (WS.at w58.drew) (sLoad 3 t62) fun t63 =>
  Rd Try.prog WS.any (sIndexAddr 24 t60 t63) fun t64 =>
  Rd Try.prog WS.any (sFieldAddr 33 t64 1) fun t65 =>
  Rd Try.prog (WS.at w58.drew) (sLoad 27 t65) fun t66 =>
  Rd Try.prog WS.any (sBuiltin .len #[27] 3 [false] [t66]) fun t67 =>
  LoopF [67, 68, 69, 12, 70, 71, 72, 73, 74, 75, 76, 78, 79, 80, 81, 82, 83, 84, 77, 85, 86, 13, 14, 87, 88, 8, 9, 89, 90, 91, 92, 93, 94, 95, 96, 97, 98, 99, 100, 101, 102, 103, 104, 105, 106, 66] (fun Q68 f69 w70 =>
   Rd Try.prog (WS.at w70) (sBin .lss 3 false (f69 66) (f69 65)) fun t71 =>
   CondK t71
    (Join (fun K72 =>
    Rd Try.prog (WS.at w70) (sIndexAddr 27 (f69 64) (f69 66)) fun t75 =>
    Rd Try.prog (WS.at w70) (sLoad 3 t75) fun t76 =>
    Rd Try.prog (WS.at w70) (sBin .lss 3 true t76 (.int .i64 0)) fun t77 =>
    CondK t77
     (∃ S78 : World → Prop, ∃ h79 : S78 w70.drew,
     Rd Try.prog ⟨S78, w70.drew, h79⟩ (sLoad 27 (f69 4)) fun t80 =>
     CallK Try.prog 254 [t76] (fun t81 w82 =>
     S78 w82 ∧ Do Try.prog (sBuildSlice 27 1 [(0, t81)]) (fun t83 w84 =>
     S78 w84 ∧ Do Try.prog (sBuiltin .append #[27, 27] 27 [false, false] [t80, t83]) (fun t85 w86 =>
     Do Try.prog (sStore 27 (f69 4) t85) (fun _ w87 =>
     K72 (F.upd (F.upd (F.upd (F.upd (F.upd (F.upd (F.upd (F.upd (F.upd (F.upd (F.upd f69 67 t71) 68 t75) 69 t76) 12 t76) 70 t76) 71 t77) 72 t80) 73 t76) 74 t81) 75 t83) 76 t85) w87) w86) w84) w82) w70.drew)
     (Rd Try.prog (WS.at w70.drew) (sLoad 220 (f69 5)) fun t88 =>
     Rd Try.prog WS.any (sNilCheck (f69 10)) fun t89 =>
     Rd Try.prog WS.any (sFieldAddr 156 t89 3) fun t90 =>
     Rd Try.prog (WS.at w70.drew) (sLoad 3 t90) fun t91 =>
     Do Try.prog (sCallV t88 [t76, t91] 221) (fun t92 w93 =>
     Rd Try.prog WS.any (sExtract t92 0) fun t94 =>
     Rd Try.prog WS.any (sExtract t92 1) fun t95 =>
     Rd Try.prog (WS.at w93) (sUn .not t95) fun t96 =>
     CondK t96
      (Q68 .ret (F.upd (F.upd (F.upd (F.upd (F.upd (F.upd (F.upd (F.upd (F.upd (F.upd (F.upd (F.upd (F.upd (F.upd (F.upd (F.upd (F.upd (F.upd (F.upd (F.upd (F.upd (F.upd f69 67 t71) 68 t75) 69 t76) 12 t76) 70 t76) 71 t77) 78 t88) 79 t76) 80 (f69 10)) 81 t89) 82 t90) 83 t91) 84 t92) 77 t92) 85 t94) 86 t95) 13 t94) 14 t95) 87 t95) 88 t96) 8 (.pointer none)) 9 (.bool false)) w93)
      (Rd Try.prog (WS.at w93) (sNilCheck (f69 10)) fun t97 =>
      Rd Try.prog (WS.at w93) (sFieldAddr 156 t97 6) fun t98 =>
      Rd Try.prog (WS.at w93) (sLoad 154 t98) fun t99 =>
      Do Try.prog (sBuildSlice 154 1 [(0, t94)]) (fun t100 w101 =>
      Do Try.prog (sBuiltin .append #[154, 154] 154 [false, false] [t99, t100]) (fun t102 w103 =>
      Rd Try.prog (WS.at w103) (sNilCheck (f69 10)) fun t104 =>
      Rd Try.prog (WS.at w103) (sFieldAddr 156 t104 6) fun t105 =>
      Do Try.prog (sStore 154 t105 t102) (fun _ w106 =>
      Rd Try.prog (WS.at w106) (sNilCheck t94) fun t107 =>
      Rd Try.prog (WS.at w106) (sFieldAddr 156 t107 3) fun t108 =>
      Rd Try.prog (WS.at w106) (sLoad 3 t108) fun t109 =>
      Rd Try.prog (WS.at w106) (sNilCheck (f69 10)) fun t110 =>
      Rd Try.prog (WS.at w106) (sFieldAddr 156 t110 3) fun t111 =>
      Do Try.prog (sStore 3 t111 t109) (fun _ w112 =>
      K72 (F.upd (F.upd (F.upd (F.upd (F.upd (F.upd (F.upd (F.upd (F.upd (F.upd (F.upd (F.upd (F.upd (F.upd (F.upd (F.upd (F.upd (F.upd (F.upd (F.upd (F.upd (F.upd (F.upd (F.upd (F.upd (F.upd (F.upd (F.upd (F.upd (F.upd (F.upd (F.upd (F.upd (F.upd (F.upd (F.upd (F.upd f69 67 t71) 68 t75) 69 t76) 12 t76) 70 t76) 71 t77) 78 t88) 79 t76) 80 (f69 10)) 81 t89) 82 t90) 83 t91) 84 t92) 77 t92) 85 t94) 86 t95) 13 t94) 14 t95) 87 t95) 88 t96) 89 (f69 10)) 90 (f69 10)) 91 t97) 92 t98) 93 t99) 94 t94) 95 t100) 96 t102) 97 t104) 98 t105) 99 (f69 10)) 100 t94) 101 t107) 102 t108) 103 t109) 104 t110) 105 t111) w112) w106) w103) w101) w93)) w70.drew)) (fun f73 w74 =>
    Rd Try.prog (WS.at w74) (sBin .add 3 true (f73 66) (.int .i64 1)) fun t113 =>
    Q68 .normal (F.upd (F.upd f73 106 t113) 66 t113) w74))
    (Q68 (.exit 0) (F.upd f69 67 t71) w70))
   (blockQ 0 (seqQ (fun f114 w115 =>
  Rd Try.prog (WS.at w115) (sLoad 27 (f114 4)) fun t116 =>
  Rd Try.prog (WS.at w115) (sBuiltin .len #[27] 3 [false] [t116]) fun t117 =>
  Rd Try.prog (WS.at w115) (sNilCheck (f114 10)) fun t118 =>
  Rd Try.prog (WS.at w115) (sFieldAddr 156 t118 5) fun t119 =>
  Do Try.prog (sStore 3 t119 t117) (fun _ w120 =>
  k (.tuple #[(f114 10), (.bool true)]) w120) w115) (bodyQ Try.prog [.tmp 8, .tmp 9] k)))
   (F.upd (F.upd (F.upd (F.upd (F.upd (F.upd (F.upd (F.upd (F.upd (F.upd (F.upd (F.upd (F.upd (F.upd (F.upd (F.upd (F.upd (F.upd (F.upd (F.upd (F.upd (F.upd (F.upd (F.upd (F.upd (F.upd (F.upd (F.upd (F.upd (F.upd (F.upd (F.upd (F.upd (F.upd (F.upd (F.upd (F.upd (F.upd (F.upd (F.upd (F.upd (F.upd (F.upd (F.upd (F.upd (F.upd (F.upd (F.upd (F.upd (F.upd (F.upd (F.upd (F.upd (F.upd (F.upd (initF [v0, v1, v2, v3, v4, v5]) 8 (.pointer none)) 9 (.bool false)) 15 v1) 16 t3) 17 t4) 18 t5) 19 t5) 20 t6) 21 t8) 22 t10) 23 t12) 24 t14) 25 t16) 26 t18) 27 t20) 28 t22) 29 t24) 30 t26) 31 t26) 32 t27) 33 t29) 34 t31) 35 t33) 36 t35) 37 t37) 38 t39) 39 t41) 40 t43) 41 t45) 42 t47) 43 t49) 44 v0) 45 t50) 46 v1) 47 t51) 48 t52) 49 v1) 50 v1) 51 t53) 52 t54) 53 t55) 54 t56) 55 t57) 10 t57) 56 t59) 57 t60) 58 t57) 59 t61) 60 t62) 61 t63) 62 t64) 63 t65) 64 t66) 65 t67) 66 (.int .i64 0)) w58.drew) w48.drew)) w46) w44) w42) w40) w38) w36) w34) w32) w30) w28) w25) w23) w21) w19) w17) w15) w13) w11) w9) w7) w.drew
theorem body260 : Try.f260.body = some (bodyOf Try.f260) := by kernel_rfl
theorem same260 (v0 v1 v2 v3 v4 v5 : Value) (k : Value → World → Prop) (w : World) : wpF Try.prog pl260 (bodyOf Try.f260) (bodyQ Try.prog Try.f260.results.toList k) (initF [v0, v1, v2, v3, v4, v5]) w = S260 v0 v1 v2 v3 v4 v5 k w := by kernel_rfl
theorem enter260 {v0 v1 v2 v3 v4 v5 : Value} {k : Value → World → Prop} {w : World} (h : S260 v0 v1 v2 v3 v4 v5 k w) : CallK Try.prog 260 [v0, v1, v2, v3, v4, v5] k w :=
  call_of_wpF (pl := pl260) mixed Try.func260 body260 (by kernel_rfl) (of_decide_eq_true (by kernel_rfl)) (by kernel_rfl) (by kernel_rfl) (Eq.mpr (same260 v0 v1 v2 v3 v4 v5 k w) h)

/-! loop.example/g00758/impl.symbolOf -/
def pl254 : Plans := fun _ => ⟨false, [], .nil⟩
def S254 (v0 : Value) (k : Value → World → Prop) (w : World) : Prop :=
 Rd Try.prog (WS.at w) (sBin .sub 3 true (.int .i64 (-1)) v0) fun t1 =>
 k t1 w
theorem body254 : Try.f254.body = some (bodyOf Try.f254) := by kernel_rfl
theorem same254 (v0 : Value) (k : Value → World → Prop) (w : World) : wpF Try.prog pl254 (bodyOf Try.f254) (bodyQ Try.prog Try.f254.results.toList k) (initF [v0]) w = S254 v0 k w := by kernel_rfl
theorem enter254 {v0 : Value} {k : Value → World → Prop} {w : World} (h : S254 v0 k w) : CallK Try.prog 254 [v0] k w :=
  call_of_wpF (pl := pl254) mixed Try.func254 body254 (by kernel_rfl) (of_decide_eq_true (by kernel_rfl)) (by kernel_rfl) (by kernel_rfl) (Eq.mpr (same254 v0 k w) h)

end Go.Proofs.Ytegcjkhebecgbaa

/- Contracts: where a tree ends (the reference). -/
set_option linter.unusedVariables false
set_option linter.unusedSimpArgs false
set_option maxRecDepth 100000
namespace Go.Sh
open Go
end Go.Sh
namespace Go.Proofs.Ytegcjkhebecgbaa
open Go Go.Sh Go.RowKit

end Go.Proofs.Ytegcjkhebecgbaa

/- Contracts: whether a tree is one, its parts, by the reference. -/
set_option linter.unusedVariables false
set_option linter.unusedSimpArgs false
set_option maxRecDepth 100000
namespace Go.Sh
open Go
theorem good_nons {g : Gram} (hg : goodG g = true) : 1 ≤ g.nons ∧ g.nons ≤ 6 := by
  simp only [goodG, inB, Bool.and_eq_true, decide_eq_true_eq] at hg
  exact hg.1.1.1
theorem good_toks {g : Gram} (hg : goodG g = true) : 1 ≤ g.toks ∧ g.toks ≤ 4 := by
  simp only [goodG, inB, Bool.and_eq_true, decide_eq_true_eq] at hg
  exact hg.1.1.2
def isT (gm : Gram) (tree : List Int) : Bool := decide (0 < tree.length) && decide (endT gm.rules tree tree.length 0 0 = some tree.length)
def askedT (gm : Gram) (tree : List Int) : Bool := goodG gm && decide (tree.length ≤ 60) && isT gm tree
end Go.Sh
namespace Go.Proofs.Ytegcjkhebecgbaa
open Go Go.Sh Go.RowKit

end Go.Proofs.Ytegcjkhebecgbaa

/- Bf: bodies of functions as terms of the frame calculus, printed by shgen.py of this repository. -/
set_option linter.unusedVariables false
set_option maxRecDepth 100000
namespace Go.Proofs.Ytegcjkhebecgbaa
open Go Go.Sh

/-! loop.example/g00758/spec.IsPump -/
/-! loop.example/g00758/impl.IsPump -/
def pl119 : Plans := fun i => match i with
  | 1 => ⟨true, [35], .step 0 .held (.step 1 .one (.step 2 .any (.step 3 .any (.step 4 .any (.step 5 .held (.step 6 .any (.step 7 .one (.step 8 .any (.step 9 .any (.step 10 .any (.step 11 .any (.step 12 .any (.step 13 .any (.step 14 .any (.step 15 .any (.step 16 .any (.step 17 .any (.step 18 .held (.step 19 .any (.step 20 .any (.step 21 .held (.step 22 .any (.step 23 .any (.step 24 .any (.step 25 .any (.step 26 .held (.step 27 .any (.step 28 .any (.step 29 .held (.step 30 .any (.step 31 .any (.step 32 .any (.step 33 .any (.step 34 .any (.step 35 .last (.step 36 .any (.step 37 .any (.nil))))))))))))))))))))))))))))))))))))))⟩
  | _ => ⟨false, [], .nil⟩
def S119 (v0 v1 v2 v3 : Value) (k : Value → World → Prop) (w : World) : Prop :=
 Do Try.prog (sBox 26 v0) (fun t1 w2 =>
 ∃ S3 : World → Prop, ∃ h4 : S3 w2.drew,
 Rd Try.prog ⟨S3, w2.drew, h4⟩ (sLoad 26 t1) fun t5 =>
 CallK Try.prog 148 [t5] (fun t6 w7 =>
 S3 w7 ∧ Rd Try.prog WS.any (sUn .not t6) fun t8 =>
 GuardK t8 false (fun k w' => Rd Try.prog WS.any (sFieldAddr 26 t1 1) fun v => k v w') (fun t9 w10 =>
 GuardK t8 false (fun k w' => Rd Try.prog ⟨S3, w2.drew, h4⟩ (sLoad 3 t9) fun v => k v w') (fun t11 w12 =>
 GuardK t8 false (fun k w' => k v1 w') (fun t13 w14 =>
 GuardK t8 false (fun k w' => CallK Try.prog 150 [t11, t13] k w') (fun t15 w16 =>
 S3 w16 ∧ GuardK t8 false (fun k w' => Rd Try.prog WS.any (sUn .not t15) fun v => k v w') (fun t17 w18 =>
 Rd Try.prog WS.any (sPick t8 (.bool true) t17) fun t19 =>
 GuardK t19 false (fun k w' => k v2 w') (fun t20 w21 =>
 GuardK t19 false (fun k w' => Rd Try.prog WS.any (sBuiltin .len #[27] 3 [false] [t20]) fun v => k v w') (fun t22 w23 =>
 GuardK t19 false (fun k w' => Rd Try.prog WS.any (sBin .neq 3 true t22 (.int .i64 4)) fun v => k v w') (fun t24 w25 =>
 Rd Try.prog WS.any (sPick t19 (.bool true) t24) fun t26 =>
 GuardK t26 false (fun k w' => k v2 w') (fun t27 w28 =>
 GuardK t26 false (fun k w' => Rd Try.prog WS.any (sIndexAddr 27 t27 (.int .i64 0)) fun v => k v w') (fun t29 w30 =>
 GuardK t26 false (fun k w' => Rd Try.prog ⟨S3, w2.drew, h4⟩ (sLoad 3 t29) fun v => k v w') (fun t31 w32 =>
 GuardK t26 false (fun k w' => k v2 w') (fun t33 w34 =>
 GuardK t26 false (fun k w' => Rd Try.prog WS.any (sIndexAddr 27 t33 (.int .i64 1)) fun v => k v w') (fun t35 w36 =>
 GuardK t26 false (fun k w' => Rd Try.prog ⟨S3, w2.drew, h4⟩ (sLoad 3 t35) fun v => k v w') (fun t37 w38 =>
 GuardK t26 false (fun k w' => Rd Try.prog WS.any (sBin .geq 3 false t31 t37) fun v => k v w') (fun t39 w40 =>
 GuardK t26 false (fun k w' => k t39 w') (fun t41 w42 =>
 GuardK t41 true (fun k w' => k v2 w') (fun t43 w44 =>
 GuardK t41 true (fun k w' => Rd Try.prog WS.any (sIndexAddr 27 t43 (.int .i64 2)) fun v => k v w') (fun t45 w46 =>
 GuardK t41 true (fun k w' => Rd Try.prog ⟨S3, w2.drew, h4⟩ (sLoad 3 t45) fun v => k v w') (fun t47 w48 =>
 GuardK t41 true (fun k w' => k v2 w') (fun t49 w50 =>
 GuardK t41 true (fun k w' => Rd Try.prog WS.any (sIndexAddr 27 t49 (.int .i64 3)) fun v => k v w') (fun t51 w52 =>
 GuardK t41 true (fun k w' => Rd Try.prog ⟨S3, w2.drew, h4⟩ (sLoad 3 t51) fun v => k v w') (fun t53 w54 =>
 GuardK t41 true (fun k w' => Rd Try.prog WS.any (sBin .geq 3 false t47 t53) fun v => k v w') (fun t55 w56 =>
 GuardK t26 false (fun k w' => Rd Try.prog WS.any (sPick t41 t55 (.bool false)) fun v => k v w') (fun t57 w58 =>
 Rd Try.prog WS.any (sPick t26 (.bool true) t57) fun t59 =>
 GuardK t59 false (fun k w' => k v3 w') (fun t60 w61 =>
 GuardK t59 false (fun k w' => CallK Try.prog 149 [t60, (.int .i64 0), (.int .i64 4)] k w') (fun t62 w63 =>
 GuardK t59 false (fun k w' => Rd Try.prog WS.any (sUn .not t62) fun v => k v w') (fun t64 w65 =>
 Rd Try.prog WS.any (sPick t59 (.bool true) t64) fun t66 =>
 CondK t66
  (k (.tuple #[(.bool false), (.bool false)]) w65)
  (Rd Try.prog (WS.at w65) (sBin .add 3 true v3 (.int .i64 1)) fun t67 =>
  LoopF [55, 56, 11, 58, 59, 60, 61, 57, 62, 63, 12, 13, 64, 65, 66, 67, 68, 69, 70, 8, 9, 71, 72, 73, 74, 75, 76, 77, 78, 79, 80, 81, 82, 83, 84, 10, 85, 54] (fun Q68 f69 w70 =>
   Rd Try.prog (WS.at w70) (sBin .lss 3 false (f69 54) (f69 53)) fun t71 =>
   CondK t71
    (CallK Try.prog 228 [(f69 1), (f69 2), (f69 54)] (fun t72 w73 =>
    Rd Try.prog (WS.at w73) (sExtract t72 0) fun t74 =>
    Rd Try.prog (WS.at w73) (sExtract t72 1) fun t75 =>
    Rd Try.prog (WS.at w73) (sUn .not t75) fun t76 =>
    GuardK t76 false (fun k w' => k t74 w') (fun t77 w78 =>
    GuardK t76 false (fun k w' => Rd Try.prog (WS.at w78) (sBuiltin .len #[27] 3 [false] [t77]) fun v => k v w') (fun t79 w80 =>
    GuardK t76 false (fun k w' => Rd Try.prog (WS.at w80) (sBin .gtr 3 true t79 (.int .i64 10)) fun v => k v w') (fun t81 w82 =>
    Rd Try.prog (WS.at w82) (sPick t76 (.bool true) t81) fun t83 =>
    CondK t83
     (Q68 .ret (F.upd (F.upd (F.upd (F.upd (F.upd (F.upd (F.upd (F.upd (F.upd (F.upd (F.upd (F.upd (F.upd (F.upd (F.upd (F.upd (F.upd (F.upd (F.upd (F.upd (F.upd f69 55 t71) 56 (f69 54)) 11 (f69 54)) 58 (f69 1)) 59 (f69 2)) 60 (f69 54)) 61 t72) 57 t72) 62 t74) 63 t75) 12 t74) 13 t75) 64 t75) 65 t76) 66 t76) 67 t77) 68 t79) 69 t81) 70 t83) 8 (.bool false)) 9 (.bool false)) w82)
     (GuardK (f69 10) true (fun k w' => Rd Try.prog (WS.at w82) (sLoad 26 (f69 4)) fun v => k v w') (fun t84 w85 =>
     GuardK (f69 10) true (fun k w' => k t74 w') (fun t86 w87 =>
     GuardK (f69 10) true (fun k w' => CallK Try.prog 151 [t84, t86] k w') (fun t88 w89 =>
     GuardK (f69 10) true (fun k w' => k t74 w') (fun t90 w91 =>
     GuardK (f69 10) true (fun k w' => Rd Try.prog (WS.at w91) (sBuiltin .len #[27] 3 [false] [t90]) fun v => k v w') (fun t92 w93 =>
     GuardK (f69 10) true (fun k w' => Rd Try.prog (WS.at w93) (sNilCheck t88) fun v => k v w') (fun t94 w95 =>
     GuardK (f69 10) true (fun k w' => Rd Try.prog (WS.at w95) (sFieldAddr 124 t94 1) fun v => k v w') (fun t96 w97 =>
     GuardK (f69 10) true (fun k w' => Rd Try.prog (WS.at w97) (sIndexAddr 122 t96 (.int .i64 0)) fun v => k v w') (fun t98 w99 =>
     GuardK (f69 10) true (fun k w' => Rd Try.prog (WS.at w99) (sIndexAddr 121 t98 (.int .i64 0)) fun v => k v w') (fun t100 w101 =>
     GuardK (f69 10) true (fun k w' => Rd Try.prog (WS.at w101) (sIndexAddr 120 t100 t92) fun v => k v w') (fun t102 w103 =>
     GuardK (f69 10) true (fun k w' => Rd Try.prog (WS.at w103) (sLoad 4 t102) fun v => k v w') (fun t104 w105 =>
     Rd Try.prog (WS.at w105) (sPick (f69 10) t104 (.bool false)) fun t106 =>
     Rd Try.prog (WS.at w105) (sBin .add 3 true (f69 54) (.int .i64 1)) fun t107 =>
     Q68 .normal (F.upd (F.upd (F.upd (F.upd (F.upd (F.upd (F.upd (F.upd (F.upd (F.upd (F.upd (F.upd (F.upd (F.upd (F.upd (F.upd (F.upd (F.upd (F.upd (F.upd (F.upd (F.upd (F.upd (F.upd (F.upd (F.upd (F.upd (F.upd (F.upd (F.upd (F.upd (F.upd (F.upd (F.upd (F.upd (F.upd f69 55 t71) 56 (f69 54)) 11 (f69 54)) 58 (f69 1)) 59 (f69 2)) 60 (f69 54)) 61 t72) 57 t72) 62 t74) 63 t75) 12 t74) 13 t75) 64 t75) 65 t76) 66 t76) 67 t77) 68 t79) 69 t81) 70 t83) 71 (f69 10)) 72 (f69 10)) 73 t84) 74 t86) 75 t88) 76 t90) 77 t92) 78 t94) 79 t96) 80 t98) 81 t100) 82 t102) 83 t104) 84 t106) 10 t106) 85 t107) 54 t107) w105) w103) w101) w99) w97) w95) w93) w91) w89) w87) w85) w82)) w80) w78) w73) w70)
    (Q68 (.exit 0) (F.upd f69 55 t71) w70))
   (blockQ 0 (seqQ (fun f108 w109 =>
  k (.tuple #[(f108 10), (.bool true)]) w109) (bodyQ Try.prog [.tmp 8, .tmp 9] k)))
   (F.upd (F.upd (F.upd (F.upd (F.upd (F.upd (F.upd (F.upd (F.upd (F.upd (F.upd (F.upd (F.upd (F.upd (F.upd (F.upd (F.upd (F.upd (F.upd (F.upd (F.upd (F.upd (F.upd (F.upd (F.upd (F.upd (F.upd (F.upd (F.upd (F.upd (F.upd (F.upd (F.upd (F.upd (F.upd (F.upd (F.upd (F.upd (F.upd (F.upd (F.upd (F.upd (F.upd (F.upd (F.upd (initF [v0, v1, v2, v3]) 4 t1) 8 (.bool false)) 9 (.bool false)) 14 t5) 15 t6) 16 t8) 17 t8) 18 t9) 19 t11) 20 t13) 21 t15) 22 t17) 23 t19) 24 t19) 25 t20) 26 t22) 27 t24) 28 t26) 29 t26) 30 t27) 31 t29) 32 t31) 33 t33) 34 t35) 35 t37) 36 t39) 37 t41) 38 t43) 39 t45) 40 t47) 41 t49) 42 t51) 43 t53) 44 t55) 45 t57) 46 t59) 47 t59) 48 t60) 49 t62) 50 t64) 51 t66) 10 (.bool true)) 52 v3) 53 t67) 54 (.int .i64 0)) w65)) w63) w61) w58) w56) w54) w52) w50) w48) w46) w44) w42) w40) w38) w36) w34) w32) w30) w28) w25) w23) w21) w18) w16) w14) w12) w10) w7) w2.drew) w
theorem body119 : Try.f119.body = some (bodyOf Try.f119) := by kernel_rfl
theorem same119 (v0 v1 v2 v3 : Value) (k : Value → World → Prop) (w : World) : wpF Try.prog pl119 (bodyOf Try.f119) (bodyQ Try.prog Try.f119.results.toList k) (initF [v0, v1, v2, v3]) w = S119 v0 v1 v2 v3 k w := by kernel_rfl
theorem enter119 {v0 v1 v2 v3 : Value} {k : Value → World → Prop} {w : World} (h : S119 v0 v1 v2 v3 k w) : CallK Try.prog 119 [v0, v1, v2, v3] k w :=
  call_of_wpF (pl := pl119) mixed Try.func119 body119 (by kernel_rfl) (of_decide_eq_true (by kernel_rfl)) (by kernel_rfl) (by kernel_rfl) (Eq.mpr (same119 v0 v1 v2 v3 k w) h)

/-! loop.example/g00758/impl.isWord -/
def pl150 : Plans := fun _ => ⟨false, [], .nil⟩
def S150 (v0 v1 : Value) (k : Value → World → Prop) (w : World) : Prop :=
 Do Try.prog (sBox 3 v0) (fun t1 w2 =>
 Rd Try.prog (WS.at w2) (sBuiltin .len #[27] 3 [false] [v1]) fun t3 =>
 Rd Try.prog (WS.at w2) (sBin .leq 3 true t3 (.int .i64 10)) fun t4 =>
 GuardK t4 true (fun k w' => k v1 w') (fun t5 w6 =>
 GuardK t4 true (fun k w' => Rd Try.prog (WS.at w6) (sMakeFunc (.func 251) [] [t1]) fun v => k v w') (fun t7 w8 =>
 GuardK t4 true (fun k w' => CallK Try.prog 250 [t5, t7] k w') (fun t9 w10 =>
 GuardK t4 true (fun k w' => Rd Try.prog (WS.at w10) (sUn .not t9) fun v => k v w') (fun t11 w12 =>
 Rd Try.prog (WS.at w12) (sPick t4 t11 (.bool false)) fun t13 =>
 k t13 w12) w10) w8) w6) w2) w
theorem body150 : Try.f150.body = some (bodyOf Try.f150) := by kernel_rfl
theorem same150 (v0 v1 : Value) (k : Value → World → Prop) (w : World) : wpF Try.prog pl150 (bodyOf Try.f150) (bodyQ Try.prog Try.f150.results.toList k) (initF [v0, v1]) w = S150 v0 v1 k w := by kernel_rfl
theorem enter150 {v0 v1 : Value} {k : Value → World → Prop} {w : World} (h : S150 v0 v1 k w) : CallK Try.prog 150 [v0, v1] k w :=
  call_of_wpF (pl := pl150) mixed Try.func150 body150 (by kernel_rfl) (of_decide_eq_true (by kernel_rfl)) (by kernel_rfl) (by kernel_rfl) (Eq.mpr (same150 v0 v1 k w) h)

/-! loop.example/g00758/spec.GoodWord -/
/-! loop.example/g00758/spec.l4In -/
def pl153 : Plans := fun _ => ⟨false, [], .nil⟩
def S153 (v0 v1 v2 : Value) (k : Value → World → Prop) (w : World) : Prop :=
 Do Try.prog (sBox 26 v0) (fun t1 w2 =>
 Rd Try.prog (WS.at w2) (sLoad 26 t1) fun t3 =>
 CallK Try.prog 162 [t3, v2] (fun t4 w5 =>
 Rd Try.prog (WS.at w5) (sIndexAddr 134 t4 v1) fun t6 =>
 Rd Try.prog (WS.at w5) (sLoad 136 t6) fun t7 =>
 Rd Try.prog (WS.at w5) (sBuiltin .len #[27] 3 [false] [v2]) fun t8 =>
 Rd Try.prog (WS.at w5) (sIndexAddr 136 t7 t8) fun t9 =>
 Rd Try.prog (WS.at w5) (sLoad 4 t9) fun t10 =>
 k t10 w5) w2) w
theorem body153 : Try.f153.body = some (bodyOf Try.f153) := by kernel_rfl
theorem same153 (v0 v1 v2 : Value) (k : Value → World → Prop) (w : World) : wpF Try.prog pl153 (bodyOf Try.f153) (bodyQ Try.prog Try.f153.results.toList k) (initF [v0, v1, v2]) w = S153 v0 v1 v2 k w := by kernel_rfl
theorem enter153 {v0 v1 v2 : Value} {k : Value → World → Prop} {w : World} (h : S153 v0 v1 v2 k w) : CallK Try.prog 153 [v0, v1, v2] k w :=
  call_of_wpF (pl := pl153) mixed Try.func153 body153 (by kernel_rfl) (of_decide_eq_true (by kernel_rfl)) (by kernel_rfl) (by kernel_rfl) (Eq.mpr (same153 v0 v1 v2 k w) h)

/-! (loop.example/g00758/impl.Grammar).spans -/
def pl151 : Plans := fun i => match i with
  | 14 => ⟨false, [18], .step 0 .any (.step 1 .any (.step 2 .held (.step 3 .any (.step 4 .any (.step 5 .any (.step 6 .any (.step 7 .any (.step 8 .any (.step 9 .any (.step 10 .held (.step 11 .any (.step 12 .any (.step 13 .any (.step 14 .any (.step 15 .held (.step 16 .any (.step 17 .any (.step 18 .last (.step 19 .any (.nil))))))))))))))))))))⟩
  | 15 => ⟨false, [10], .step 0 .any (.step 1 .any (.step 2 .held (.step 3 .any (.step 4 .any (.step 5 .any (.step 6 .any (.step 7 .any (.step 8 .any (.step 9 .any (.step 10 .last (.nil)))))))))))⟩
  | _ => ⟨false, [], .nil⟩
def S151 (v0 v1 : Value) (k : Value → World → Prop) (w : World) : Prop :=
 Do Try.prog (sBox 26 v0) (fun t1 w2 =>
 Rd Try.prog (WS.at w2) (sBuild 124 [(0, v1)]) fun t3 =>
 Do Try.prog (sBox 124 t3) (fun t4 w5 =>
 LoopF [14, 6, 15, 16, 17, 18, 19, 20, 21, 8, 22, 23, 24, 25, 26, 27, 9, 28, 10, 29, 30, 31, 32, 35, 36, 37, 38, 39, 40, 41, 42, 43, 44, 45, 46, 47, 48, 49, 50, 51, 52, 53, 54, 55, 56, 57, 58, 59, 60, 61, 62, 63, 64, 6, 33, 34, 10, 65, 25, 66, 18] (fun Q6 f7 w8 =>
  CondK (f7 6)
   (Rd Try.prog (WS.at w8) (sFieldAddr 26 (f7 2) 2) fun t9 =>
   Rd Try.prog (WS.at w8) (sLoad 24 t9) fun t10 =>
   Rd Try.prog (WS.at w8) (sBuiltin .len #[24] 3 [false] [t10]) fun t11 =>
   LoopF [19, 20, 21, 8, 22, 23, 24, 25, 26, 27, 9, 28, 10, 29, 30, 31, 32, 35, 36, 37, 38, 39, 40, 41, 42, 43, 44, 45, 46, 47, 48, 49, 50, 51, 52, 53, 54, 55, 56, 57, 58, 59, 60, 61, 62, 63, 64, 6, 33, 34, 10, 65, 25, 66, 18] (fun Q12 f13 w14 =>
    Rd Try.prog (WS.at w14) (sBin .lss 3 false (f13 18) (f13 17)) fun t15 =>
    CondK t15
     (Rd Try.prog (WS.at w14) (sIndexAddr 24 (f13 16) (f13 18)) fun t16 =>
     Rd Try.prog (WS.at w14) (sLoad 33 t16) fun t17 =>
     Do Try.prog (sAlloc 33) (fun t18 w19 =>
     Do Try.prog (sStore 33 t18 t17) (fun _ w20 =>
     Rd Try.prog (WS.at w20) (sBuiltin .len #[27] 3 [false] [(f13 1)]) fun t21 =>
     Rd Try.prog (WS.at w20) (sBin .add 3 true t21 (.int .i64 1)) fun t22 =>
     LoopF [26, 27, 9, 28, 10, 29, 30, 31, 32, 35, 36, 37, 38, 39, 40, 41, 42, 43, 44, 45, 46, 47, 48, 49, 50, 51, 52, 53, 54, 55, 56, 57, 58, 59, 60, 61, 62, 63, 64, 6, 33, 34, 10, 65, 25] (fun Q23 f24 w25 =>
      Rd Try.prog (WS.at w25) (sBin .lss 3 false (f24 25) (f24 24)) fun t26 =>
      CondK t26
       (LoopF [29, 30, 31, 32, 35, 36, 37, 38, 39, 40, 41, 42, 43, 44, 45, 46, 47, 48, 49, 50, 51, 52, 53, 54, 55, 56, 57, 58, 59, 60, 61, 62, 63, 64, 6, 33, 34, 10] (fun Q27 f28 w29 =>
        Rd Try.prog (WS.at w29) (sBuiltin .len #[27] 3 [false] [(f28 1)]) fun t30 =>
        Rd Try.prog (WS.at w29) (sBin .leq 3 false (f28 10) t30) fun t31 =>
        CondK t31
         (Join (fun K32 =>
         Rd Try.prog WS.any (sFieldAddr 33 (f28 8) 0) fun t35 =>
         Rd Try.prog (WS.at w29.drew) (sLoad 3 t35) fun t36 =>
         Rd Try.prog WS.any (sNilCheck (f28 5)) fun t37 =>
         Rd Try.prog WS.any (sFieldAddr 124 t37 1) fun t38 =>
         Rd Try.prog WS.any (sIndexAddr 122 t38 t36) fun t39 =>
         Rd Try.prog WS.any (sIndexAddr 121 t39 (f28 9)) fun t40 =>
         Rd Try.prog WS.any (sIndexAddr 120 t40 (f28 10)) fun t41 =>
         Rd Try.prog (WS.at w29.drew) (sLoad 4 t41) fun t42 =>
         Rd Try.prog WS.any (sUn .not t42) fun t43 =>
         GuardK t43 true (fun k w' => k (f28 5) w') (fun t44 w45 =>
         GuardK t43 true (fun k w' => Rd Try.prog WS.any (sFieldAddr 33 (f28 8) 1) fun v => k v w') (fun t46 w47 =>
         GuardK t43 true (fun k w' => Rd Try.prog (WS.at w29.drew) (sLoad 27 t46) fun v => k v w') (fun t48 w49 =>
         GuardK t43 true (fun k w' => k (f28 9) w') (fun t50 w51 =>
         GuardK t43 true (fun k w' => k (f28 10) w') (fun t52 w53 =>
         GuardK t43 true (fun k w' => CallK Try.prog 155 [t44, t48, t50, t52] k w') (fun t54 w55 =>
         Rd Try.prog WS.any (sPick t43 t54 (.bool false)) fun t56 =>
         CondK t56
          (Rd Try.prog WS.any (sFieldAddr 33 (f28 8) 0) fun t57 =>
          Rd Try.prog (WS.at w55.drew) (sLoad 3 t57) fun t58 =>
          Rd Try.prog WS.any (sNilCheck (f28 5)) fun t59 =>
          Rd Try.prog WS.any (sFieldAddr 124 t59 1) fun t60 =>
          Rd Try.prog WS.any (sIndexAddr 122 t60 t58) fun t61 =>
          Rd Try.prog WS.any (sIndexAddr 121 t61 (f28 9)) fun t62 =>
          Rd Try.prog WS.any (sIndexAddr 120 t62 (f28 10)) fun t63 =>
          Do Try.prog (sStore 4 t63 (.bool true)) (fun _ w64 =>
          K32 (F.upd (F.upd (F.upd (F.upd (F.upd (F.upd (F.upd (F.upd (F.upd (F.upd (F.upd (F.upd (F.upd (F.upd (F.upd (F.upd (F.upd (F.upd (F.upd (F.upd (F.upd (F.upd (F.upd (F.upd (F.upd (F.upd (F.upd (F.upd (F.upd (F.upd (F.upd (F.upd (F.upd (F.upd (F.upd f28 29 (f28 10)) 30 (f28 1)) 31 t30) 32 t31) 35 (f28 5)) 36 t35) 37 t36) 38 (f28 9)) 39 (f28 10)) 40 t37) 41 t38) 42 t39) 43 t40) 44 t41) 45 t42) 46 t43) 47 t43) 48 t44) 49 t46) 50 t48) 51 t50) 52 t52) 53 t54) 54 t56) 55 (f28 5)) 56 t57) 57 t58) 58 (f28 9)) 59 (f28 10)) 60 t59) 61 t60) 62 t61) 63 t62) 64 t63) 6 (.bool true)) w64) w55.drew)
          (K32 (F.upd (F.upd (F.upd (F.upd (F.upd (F.upd (F.upd (F.upd (F.upd (F.upd (F.upd (F.upd (F.upd (F.upd (F.upd (F.upd (F.upd (F.upd (F.upd (F.upd (F.upd (F.upd (F.upd (F.upd f28 29 (f28 10)) 30 (f28 1)) 31 t30) 32 t31) 35 (f28 5)) 36 t35) 37 t36) 38 (f28 9)) 39 (f28 10)) 40 t37) 41 t38) 42 t39) 43 t40) 44 t41) 45 t42) 46 t43) 47 t43) 48 t44) 49 t46) 50 t48) 51 t50) 52 t52) 53 t54) 54 t56) w55)) w53) w51) w49) w47) w45) w29.drew) (fun f33 w34 =>
         Rd Try.prog (WS.at w34) (sBin .add 3 true (f33 10) (.int .i64 1)) fun t65 =>
         Q27 .normal (F.upd (F.upd (F.upd f33 33 (f33 10)) 34 t65) 10 t65) w34))
         (Q27 (.exit 6) (F.upd (F.upd (F.upd (F.upd f28 29 (f28 10)) 30 (f28 1)) 31 t30) 32 t31) w29))
        (blockQ 6 (blockQ 5 (seqQ (fun f66 w67 =>
       Rd Try.prog (WS.at w67) (sBin .add 3 true (f66 25) (.int .i64 1)) fun t68 =>
       Q23 .normal (F.upd (F.upd f66 65 t68) 25 t68) w67) Q23)))
        (F.upd (F.upd (F.upd (F.upd (F.upd f24 26 t26) 27 (f24 25)) 9 (f24 25)) 28 (f24 25)) 10 (f24 25)) w25)
       (Q23 (.exit 4) (F.upd f24 26 t26) w25))
      (blockQ 4 (blockQ 3 (seqQ (fun f69 w70 =>
     Rd Try.prog (WS.at w70) (sBin .add 3 true (f69 18) (.int .i64 1)) fun t71 =>
     Q12 .normal (F.upd (F.upd f69 66 t71) 18 t71) w70) Q12)))
      (F.upd (F.upd (F.upd (F.upd (F.upd (F.upd (F.upd (F.upd f13 19 t15) 20 t16) 21 t17) 8 t18) 22 (f13 1)) 23 t21) 24 t22) 25 (.int .i64 0)) w20) w19) w14)
     (Q12 (.exit 2) (F.upd f13 19 t15) w14))
    (blockQ 2 (blockQ 1 Q6))
    (F.upd (F.upd (F.upd (F.upd (F.upd (F.upd f7 14 (f7 6)) 6 (.bool false)) 15 t9) 16 t10) 17 t11) 18 (.int .i64 0)) w8)
   (Q6 (.exit 0) (F.upd f7 14 (f7 6)) w8))
  (blockQ 0 (seqQ (fun f72 w73 =>
 k (f72 5) w73) (bodyQ Try.prog [.tmp 4] k)))
  (F.upd (F.upd (F.upd (F.upd (F.upd (F.upd (F.upd (initF [v0, v1]) 2 t1) 4 (.pointer none)) 11 v1) 12 t3) 13 t4) 5 t4) 6 (.bool true)) w5) w2) w
theorem body151 : Try.f151.body = some (bodyOf Try.f151) := by kernel_rfl
theorem same151 (v0 v1 : Value) (k : Value → World → Prop) (w : World) : wpF Try.prog pl151 (bodyOf Try.f151) (bodyQ Try.prog Try.f151.results.toList k) (initF [v0, v1]) w = S151 v0 v1 k w := by kernel_rfl
theorem enter151 {v0 v1 : Value} {k : Value → World → Prop} {w : World} (h : S151 v0 v1 k w) : CallK Try.prog 151 [v0, v1] k w :=
  call_of_wpF (pl := pl151) mixed Try.func151 body151 (by kernel_rfl) (of_decide_eq_true (by kernel_rfl)) (by kernel_rfl) (by kernel_rfl) (Eq.mpr (same151 v0 v1 k w) h)

/-! loop.example/g00758/spec.l1Word -/
/-! loop.example/g00758/impl.isWord$1 -/
def pl251 : Plans := fun _ => ⟨false, [], .nil⟩
def S251 (v0 v1 : Value) (k : Value → World → Prop) (w : World) : Prop :=
 Rd Try.prog (WS.at w) (sLoad 3 v1) fun t1 =>
 Rd Try.prog (WS.at w) (sBin .sub 3 true t1 (.int .i64 1)) fun t2 =>
 CallK Try.prog 149 [v0, (.int .i64 0), t2] (fun t3 w4 =>
 Rd Try.prog (WS.at w4) (sUn .not t3) fun t5 =>
 k t5 w4) w
theorem body251 : Try.f251.body = some (bodyOf Try.f251) := by kernel_rfl
theorem same251 (v0 v1 : Value) (k : Value → World → Prop) (w : World) : wpF Try.prog pl251 (bodyOf Try.f251) (bodyQ Try.prog Try.f251.results.toList k) (initF [v0, v1]) w = S251 v0 v1 k w := by kernel_rfl
theorem enter251 {v0 v1 : Value} {k : Value → World → Prop} {w : World} (h : S251 v0 v1 k w) : CallK Try.prog 251 [v0, v1] k w :=
  call_of_wpF (pl := pl251) mixed Try.func251 body251 (by kernel_rfl) (of_decide_eq_true (by kernel_rfl)) (by kernel_rfl) (by kernel_rfl) (Eq.mpr (same251 v0 v1 k w) h)

/-! loop.example/g00758/spec.l4Table -/
def pl162 : Plans := fun _ => ⟨false, [], .nil⟩
def S162 (v0 v1 : Value) (k : Value → World → Prop) (w : World) : Prop :=
 Do Try.prog (sBox 26 v0) (fun t1 w2 =>
 Rd Try.prog (WS.at w2) (sBuiltin .len #[27] 3 [false] [v1]) fun t3 =>
 Rd Try.prog (WS.at w2) (sBin .add 3 true t3 (.int .i64 1)) fun t4 =>
 Rd Try.prog (WS.at w2) (sFieldAddr 26 t1 0) fun t5 =>
 Rd Try.prog (WS.at w2) (sLoad 3 t5) fun t6 =>
 Do Try.prog (sMakeSlice 134 t6 t6) (fun t7 w8 =>
 Rd Try.prog (WS.at w8) (sBuiltin .len #[134] 3 [false] [t7]) fun t9 =>
 LoopF [22, 23, 7, 24, 25, 26, 27, 28, 29, 30, 31, 21] (fun Q10 f11 w12 =>
  Rd Try.prog (WS.at w12) (sBin .lss 3 false (f11 21) (f11 20)) fun t13 =>
  CondK t13
   (Rd Try.prog (WS.at w12) (sBin .mul 3 false (f11 5) (f11 5)) fun t14 =>
   Do Try.prog (sMakeSlice 136 t14 t14) (fun t15 w16 =>
   Rd Try.prog (WS.at w16) (sIndexAddr 134 (f11 6) (f11 21)) fun t17 =>
   Do Try.prog (sStore 136 t17 t15) (fun _ w18 =>
   Rd Try.prog (WS.at w18) (sBin .add 3 true (f11 21) (.int .i64 1)) fun t19 =>
   Q10 .normal (F.upd (F.upd (F.upd (F.upd (F.upd (F.upd (F.upd (F.upd (F.upd (F.upd (F.upd (F.upd f11 22 t13) 23 (f11 21)) 7 (f11 21)) 24 (f11 6)) 25 (f11 21)) 26 (f11 5)) 27 (f11 5)) 28 t14) 29 t15) 30 t17) 31 t19) 21 t19) w18) w16) w12)
   (Q10 (.exit 0) (F.upd f11 22 t13) w12))
  (blockQ 0 (seqQ (fun f20 w21 =>
 LoopF [32, 8, 33, 34, 35, 36, 37, 38, 39, 10, 11, 40, 41, 42, 45, 12, 46, 47, 48, 51, 52, 53, 54, 55, 56, 57, 58, 59, 60, 61, 62, 63, 64, 65, 66, 67, 68, 69, 70, 71, 72, 73, 74, 75, 76, 77, 78, 79, 80, 81, 82, 83, 8, 49, 50, 12, 43, 44, 11, 84, 36] (fun Q22 f23 w24 =>
  CondK (f23 8)
   (Rd Try.prog (WS.at w24) (sFieldAddr 26 (f23 2) 2) fun t25 =>
   Rd Try.prog (WS.at w24) (sLoad 24 t25) fun t26 =>
   Rd Try.prog (WS.at w24) (sBuiltin .len #[24] 3 [false] [t26]) fun t27 =>
   LoopF [37, 38, 39, 10, 11, 40, 41, 42, 45, 12, 46, 47, 48, 51, 52, 53, 54, 55, 56, 57, 58, 59, 60, 61, 62, 63, 64, 65, 66, 67, 68, 69, 70, 71, 72, 73, 74, 75, 76, 77, 78, 79, 80, 81, 82, 83, 8, 49, 50, 12, 43, 44, 11, 84, 36] (fun Q28 f29 w30 =>
    Rd Try.prog (WS.at w30) (sBin .lss 3 false (f29 36) (f29 35)) fun t31 =>
    CondK t31
     (Rd Try.prog (WS.at w30) (sIndexAddr 24 (f29 34) (f29 36)) fun t32 =>
     Rd Try.prog (WS.at w30) (sLoad 33 t32) fun t33 =>
     Do Try.prog (sAlloc 33) (fun t34 w35 =>
     Do Try.prog (sStore 33 t34 t33) (fun _ w36 =>
     LoopF [40, 41, 42, 45, 12, 46, 47, 48, 51, 52, 53, 54, 55, 56, 57, 58, 59, 60, 61, 62, 63, 64, 65, 66, 67, 68, 69, 70, 71, 72, 73, 74, 75, 76, 77, 78, 79, 80, 81, 82, 83, 8, 49, 50, 12, 43, 44, 11] (fun Q37 f38 w39 =>
      Rd Try.prog (WS.at w39) (sBin .lss 3 false (f38 11) (f38 5)) fun t40 =>
      CondK t40
       (LoopF [46, 47, 48, 51, 52, 53, 54, 55, 56, 57, 58, 59, 60, 61, 62, 63, 64, 65, 66, 67, 68, 69, 70, 71, 72, 73, 74, 75, 76, 77, 78, 79, 80, 81, 82, 83, 8, 49, 50, 12] (fun Q41 f42 w43 =>
        Rd Try.prog (WS.at w43) (sBin .lss 3 false (f42 12) (f42 5)) fun t44 =>
        CondK t44
         (Join (fun K45 =>
         Rd Try.prog (WS.at w43) (sFieldAddr 33 (f42 10) 0) fun t48 =>
         Rd Try.prog (WS.at w43) (sLoad 3 t48) fun t49 =>
         Rd Try.prog (WS.at w43) (sIndexAddr 134 (f42 6) t49) fun t50 =>
         Rd Try.prog (WS.at w43) (sLoad 136 t50) fun t51 =>
         Rd Try.prog (WS.at w43) (sBin .mul 3 false (f42 11) (f42 5)) fun t52 =>
         Rd Try.prog (WS.at w43) (sBin .add 3 false t52 (f42 12)) fun t53 =>
         Rd Try.prog (WS.at w43) (sIndexAddr 136 t51 t53) fun t54 =>
         Rd Try.prog (WS.at w43) (sLoad 4 t54) fun t55 =>
         Rd Try.prog (WS.at w43) (sUn .not t55) fun t56 =>
         GuardK t56 true (fun k w' => k (f42 6) w') (fun t57 w58 =>
         GuardK t56 true (fun k w' => k (f42 1) w') (fun t59 w60 =>
         GuardK t56 true (fun k w' => Rd Try.prog (WS.at w60) (sFieldAddr 33 (f42 10) 1) fun v => k v w') (fun t61 w62 =>
         GuardK t56 true (fun k w' => Rd Try.prog (WS.at w62) (sLoad 27 t61) fun v => k v w') (fun t63 w64 =>
         GuardK t56 true (fun k w' => k (f42 11) w') (fun t65 w66 =>
         GuardK t56 true (fun k w' => k (f42 12) w') (fun t67 w68 =>
         GuardK t56 true (fun k w' => CallK Try.prog 161 [t57, t59, t63, t65, t67] k w') (fun t69 w70 =>
         Rd Try.prog (WS.at w70) (sPick t56 t69 (.bool false)) fun t71 =>
         CondK t71
          (Rd Try.prog (WS.at w70) (sFieldAddr 33 (f42 10) 0) fun t72 =>
          Rd Try.prog (WS.at w70) (sLoad 3 t72) fun t73 =>
          Rd Try.prog (WS.at w70) (sIndexAddr 134 (f42 6) t73) fun t74 =>
          Rd Try.prog (WS.at w70) (sLoad 136 t74) fun t75 =>
          Rd Try.prog (WS.at w70) (sBin .mul 3 false (f42 11) (f42 5)) fun t76 =>
          Rd Try.prog (WS.at w70) (sBin .add 3 false t76 (f42 12)) fun t77 =>
          Rd Try.prog (WS.at w70) (sIndexAddr 136 t75 t77) fun t78 =>
          Do Try.prog (sStore 4 t78 (.bool true)) (fun _ w79 =>
          K45 (F.upd (F.upd (F.upd (F.upd (F.upd (F.upd (F.upd (F.upd (F.upd (F.upd (F.upd (F.upd (F.upd (F.upd (F.upd (F.upd (F.upd (F.upd (F.upd (F.upd (F.upd (F.upd (F.upd (F.upd (F.upd (F.upd (F.upd (F.upd (F.upd (F.upd (F.upd (F.upd (F.upd (F.upd (F.upd (F.upd (F.upd f42 46 (f42 12)) 47 (f42 5)) 48 t44) 51 (f42 6)) 52 t48) 53 t49) 54 t50) 55 t51) 56 (f42 11)) 57 (f42 5)) 58 t52) 59 (f42 12)) 60 t53) 61 t54) 62 t55) 63 t56) 64 t56) 65 t57) 66 t59) 67 t61) 68 t63) 69 t65) 70 t67) 71 t69) 72 t71) 73 (f42 6)) 74 t72) 75 t73) 76 t74) 77 t75) 78 (f42 11)) 79 (f42 5)) 80 t76) 81 (f42 12)) 82 t77) 83 t78) 8 (.bool true)) w79) w70)
          (K45 (F.upd (F.upd (F.upd (F.upd (F.upd (F.upd (F.upd (F.upd (F.upd (F.upd (F.upd (F.upd (F.upd (F.upd (F.upd (F.upd (F.upd (F.upd (F.upd (F.upd (F.upd (F.upd (F.upd (F.upd (F.upd f42 46 (f42 12)) 47 (f42 5)) 48 t44) 51 (f42 6)) 52 t48) 53 t49) 54 t50) 55 t51) 56 (f42 11)) 57 (f42 5)) 58 t52) 59 (f42 12)) 60 t53) 61 t54) 62 t55) 63 t56) 64 t56) 65 t57) 66 t59) 67 t61) 68 t63) 69 t65) 70 t67) 71 t69) 72 t71) w70)) w68) w66) w64) w62) w60) w58) w43) (fun f46 w47 =>
         Rd Try.prog (WS.at w47) (sBin .add 3 true (f46 12) (.int .i64 1)) fun t80 =>
         Q41 .normal (F.upd (F.upd (F.upd f46 49 (f46 12)) 50 t80) 12 t80) w47))
         (Q41 (.exit 8) (F.upd (F.upd (F.upd f42 46 (f42 12)) 47 (f42 5)) 48 t44) w43))
        (blockQ 8 (blockQ 7 (seqQ (fun f81 w82 =>
       Rd Try.prog (WS.at w82) (sBin .add 3 true (f81 11) (.int .i64 1)) fun t83 =>
       Q37 .normal (F.upd (F.upd (F.upd f81 43 (f81 11)) 44 t83) 11 t83) w82) Q37)))
        (F.upd (F.upd (F.upd (F.upd (F.upd f38 40 (f38 11)) 41 (f38 5)) 42 t40) 45 (f38 11)) 12 (f38 11)) w39)
       (Q37 (.exit 6) (F.upd (F.upd (F.upd f38 40 (f38 11)) 41 (f38 5)) 42 t40) w39))
      (blockQ 6 (blockQ 5 (seqQ (fun f84 w85 =>
     Rd Try.prog (WS.at w85) (sBin .add 3 true (f84 36) (.int .i64 1)) fun t86 =>
     Q28 .normal (F.upd (F.upd f84 84 t86) 36 t86) w85) Q28)))
      (F.upd (F.upd (F.upd (F.upd (F.upd f29 37 t31) 38 t32) 39 t33) 10 t34) 11 (.int .i64 0)) w36) w35) w30)
     (Q28 (.exit 4) (F.upd f29 37 t31) w30))
    (blockQ 4 (blockQ 3 Q22))
    (F.upd (F.upd (F.upd (F.upd (F.upd (F.upd f23 32 (f23 8)) 8 (.bool false)) 33 t25) 34 t26) 35 t27) 36 (.int .i64 0)) w24)
   (Q22 (.exit 2) (F.upd f23 32 (f23 8)) w24))
  (blockQ 2 (seqQ (fun f87 w88 =>
 k (f87 6) w88) (bodyQ Try.prog [.tmp 4] k)))
  (F.upd f20 8 (.bool true)) w21) (bodyQ Try.prog [.tmp 4] k)))
  (F.upd (F.upd (F.upd (F.upd (F.upd (F.upd (F.upd (F.upd (F.upd (F.upd (F.upd (F.upd (F.upd (initF [v0, v1]) 2 t1) 4 (.slice none 0 0)) 13 v1) 14 t3) 15 t4) 5 t4) 16 t5) 17 t6) 18 t7) 6 t7) 19 t7) 20 t9) 21 (.int .i64 0)) w8) w2) w
theorem body162 : Try.f162.body = some (bodyOf Try.f162) := by kernel_rfl
theorem same162 (v0 v1 : Value) (k : Value → World → Prop) (w : World) : wpF Try.prog pl162 (bodyOf Try.f162) (bodyQ Try.prog Try.f162.results.toList k) (initF [v0, v1]) w = S162 v0 v1 k w := by kernel_rfl
theorem enter162 {v0 v1 : Value} {k : Value → World → Prop} {w : World} (h : S162 v0 v1 k w) : CallK Try.prog 162 [v0, v1] k w :=
  call_of_wpF (pl := pl162) mixed Try.func162 body162 (by kernel_rfl) (of_decide_eq_true (by kernel_rfl)) (by kernel_rfl) (by kernel_rfl) (Eq.mpr (same162 v0 v1 k w) h)

/-! (*loop.example/g00758/impl.table).sequence -/
def pl155 : Plans := fun _ => ⟨false, [], .nil⟩
def S155 (v0 v1 v2 v3 : Value) (k : Value → World → Prop) (w : World) : Prop :=
 Rd Try.prog (WS.at w) (sBuiltin .len #[27] 3 [false] [v1]) fun t1 =>
 Rd Try.prog (WS.at w) (sBin .eql 3 true t1 (.int .i64 0)) fun t2 =>
 CondK t2
  (Rd Try.prog (WS.at w) (sBin .eql 3 false v2 v3) fun t3 =>
  k t3 w)
  (Rd Try.prog (WS.at w) (sIndexAddr 27 v1 (.int .i64 0)) fun t4 =>
  Rd Try.prog (WS.at w) (sLoad 3 t4) fun t5 =>
  Rd Try.prog (WS.at w) (sBin .lss 3 true t5 (.int .i64 0)) fun t6 =>
  CondK t6
   (Rd Try.prog (WS.at w) (sBin .lss 3 false v2 v3) fun t7 =>
   GuardK t7 true (fun k w' => k v0 w') (fun t8 w9 =>
   GuardK t7 true (fun k w' => Rd Try.prog (WS.at w9) (sNilCheck t8) fun v => k v w') (fun t10 w11 =>
   GuardK t7 true (fun k w' => Rd Try.prog (WS.at w11) (sFieldAddr 124 t10 0) fun v => k v w') (fun t12 w13 =>
   GuardK t7 true (fun k w' => Rd Try.prog (WS.at w13) (sLoad 27 t12) fun v => k v w') (fun t14 w15 =>
   GuardK t7 true (fun k w' => k v2 w') (fun t16 w17 =>
   GuardK t7 true (fun k w' => Rd Try.prog (WS.at w17) (sIndexAddr 27 t14 t16) fun v => k v w') (fun t18 w19 =>
   GuardK t7 true (fun k w' => Rd Try.prog (WS.at w19) (sLoad 3 t18) fun v => k v w') (fun t20 w21 =>
   GuardK t7 true (fun k w' => CallK Try.prog 254 [t20] k w') (fun t22 w23 =>
   GuardK t7 true (fun k w' => k t5 w') (fun t24 w25 =>
   GuardK t7 true (fun k w' => Rd Try.prog (WS.at w25) (sBin .eql 3 false t22 t24) fun v => k v w') (fun t26 w27 =>
   Rd Try.prog (WS.at w27) (sPick t7 t26 (.bool false)) fun t28 =>
   GuardK t28 true (fun k w' => k v0 w') (fun t29 w30 =>
   GuardK t28 true (fun k w' => k v1 w') (fun t31 w32 =>
   GuardK t28 true (fun k w' => Rd Try.prog (WS.at w32) (sSlice 27 t31 (some (.int .i64 1)) none none) fun v => k v w') (fun t33 w34 =>
   GuardK t28 true (fun k w' => k v2 w') (fun t35 w36 =>
   GuardK t28 true (fun k w' => Rd Try.prog (WS.at w36) (sBin .add 3 true t35 (.int .i64 1)) fun v => k v w') (fun t37 w38 =>
   GuardK t28 true (fun k w' => k v3 w') (fun t39 w40 =>
   GuardK t28 true (fun k w' => CallK Try.prog 155 [t29, t33, t37, t39] k w') (fun t41 w42 =>
   Rd Try.prog (WS.at w42) (sPick t28 t41 (.bool false)) fun t43 =>
   k t43 w42) w40) w38) w36) w34) w32) w30) w27) w25) w23) w21) w19) w17) w15) w13) w11) w9) w)
   (LoopF [47, 48, 49, 52, 53, 54, 55, 56, 57, 58, 59, 60, 61, 62, 63, 64, 65, 66, 67, 68, 69, 8, 50, 51, 10] (fun Q44 f45 w46 =>
    Rd Try.prog (WS.at w46) (sBin .leq 3 false (f45 10) (f45 3)) fun t47 =>
    CondK t47
     (Rd Try.prog (WS.at w46) (sNilCheck (f45 0)) fun t48 =>
     Rd Try.prog (WS.at w46) (sFieldAddr 124 t48 1) fun t49 =>
     Rd Try.prog (WS.at w46) (sIndexAddr 122 t49 (f45 9)) fun t50 =>
     Rd Try.prog (WS.at w46) (sIndexAddr 121 t50 (f45 2)) fun t51 =>
     Rd Try.prog (WS.at w46) (sIndexAddr 120 t51 (f45 10)) fun t52 =>
     Rd Try.prog (WS.at w46) (sLoad 4 t52) fun t53 =>
     GuardK t53 true (fun k w' => k (f45 0) w') (fun t54 w55 =>
     GuardK t53 true (fun k w' => k (f45 1) w') (fun t56 w57 =>
     GuardK t53 true (fun k w' => Rd Try.prog (WS.at w57) (sSlice 27 t56 (some (.int .i64 1)) none none) fun v => k v w') (fun t58 w59 =>
     GuardK t53 true (fun k w' => k (f45 10) w') (fun t60 w61 =>
     GuardK t53 true (fun k w' => k (f45 3) w') (fun t62 w63 =>
     GuardK t53 true (fun k w' => CallK Try.prog 155 [t54, t58, t60, t62] k w') (fun t64 w65 =>
     Rd Try.prog (WS.at w65) (sPick t53 t64 (.bool false)) fun t66 =>
     CondK t66
      (Q44 .ret (F.upd (F.upd (F.upd (F.upd (F.upd (F.upd (F.upd (F.upd (F.upd (F.upd (F.upd (F.upd (F.upd (F.upd (F.upd (F.upd (F.upd (F.upd (F.upd (F.upd (F.upd (F.upd f45 47 (f45 10)) 48 (f45 3)) 49 t47) 52 (f45 0)) 53 (f45 9)) 54 (f45 2)) 55 (f45 10)) 56 t48) 57 t49) 58 t50) 59 t51) 60 t52) 61 t53) 62 t53) 63 t54) 64 t56) 65 t58) 66 t60) 67 t62) 68 t64) 69 t66) 8 (.bool true)) w65)
      (Rd Try.prog (WS.at w65) (sBin .add 3 true (f45 10) (.int .i64 1)) fun t67 =>
      Q44 .normal (F.upd (F.upd (F.upd (F.upd (F.upd (F.upd (F.upd (F.upd (F.upd (F.upd (F.upd (F.upd (F.upd (F.upd (F.upd (F.upd (F.upd (F.upd (F.upd (F.upd (F.upd (F.upd (F.upd (F.upd f45 47 (f45 10)) 48 (f45 3)) 49 t47) 52 (f45 0)) 53 (f45 9)) 54 (f45 2)) 55 (f45 10)) 56 t48) 57 t49) 58 t50) 59 t51) 60 t52) 61 t53) 62 t53) 63 t54) 64 t56) 65 t58) 66 t60) 67 t62) 68 t64) 69 t66) 50 (f45 10)) 51 t67) 10 t67) w65)) w63) w61) w59) w57) w55) w46)
     (Q44 (.exit 0) (F.upd (F.upd (F.upd f45 47 (f45 10)) 48 (f45 3)) 49 t47) w46))
    (blockQ 0 (seqQ (fun f68 w69 =>
   k (.bool false) w69) (bodyQ Try.prog [.tmp 8] k)))
    (F.upd (F.upd (F.upd (F.upd (F.upd (F.upd (F.upd (F.upd (F.upd (F.upd (F.upd (F.upd (initF [v0, v1, v2, v3]) 8 (.bool false)) 11 v1) 12 t1) 13 t2) 17 v1) 18 t4) 19 t5) 9 t5) 20 t5) 21 t6) 46 v2) 10 v2) w))
theorem body155 : Try.f155.body = some (bodyOf Try.f155) := by kernel_rfl
theorem same155 (v0 v1 v2 v3 : Value) (k : Value → World → Prop) (w : World) : wpF Try.prog pl155 (bodyOf Try.f155) (bodyQ Try.prog Try.f155.results.toList k) (initF [v0, v1, v2, v3]) w = S155 v0 v1 v2 v3 k w := by kernel_rfl
theorem enter155 {v0 v1 v2 v3 : Value} {k : Value → World → Prop} {w : World} (h : S155 v0 v1 v2 v3 k w) : CallK Try.prog 155 [v0, v1, v2, v3] k w :=
  call_of_wpF (pl := pl155) mixed Try.func155 body155 (by kernel_rfl) (of_decide_eq_true (by kernel_rfl)) (by kernel_rfl) (by kernel_rfl) (Eq.mpr (same155 v0 v1 v2 v3 k w) h)

/-! loop.example/g00758/spec.l4Fits -/
def pl161 : Plans := fun _ => ⟨false, [], .nil⟩
def S161 (v0 v1 v2 v3 v4 : Value) (k : Value → World → Prop) (w : World) : Prop :=
 Rd Try.prog (WS.at w) (sBuiltin .len #[27] 3 [false] [v2]) fun t1 =>
 Rd Try.prog (WS.at w) (sBin .eql 3 true t1 (.int .i64 0)) fun t2 =>
 CondK t2
  (Rd Try.prog (WS.at w) (sBin .eql 3 false v3 v4) fun t3 =>
  k t3 w)
  (LoopF [19, 20, 21, 24, 25, 26, 27, 28, 29, 30, 31, 32, 33, 34, 35, 36, 37, 38, 39, 40, 10, 22, 23, 11] (fun Q4 f5 w6 =>
   Rd Try.prog (WS.at w6) (sBin .leq 3 false (f5 11) (f5 4)) fun t7 =>
   CondK t7
    (Rd Try.prog (WS.at w6) (sIndexAddr 27 (f5 2) (.int .i64 0)) fun t8 =>
    Rd Try.prog (WS.at w6) (sLoad 3 t8) fun t9 =>
    CallK Try.prog 255 [(f5 0), (f5 1), t9, (f5 3), (f5 11)] (fun t10 w11 =>
    GuardK t10 true (fun k w' => k (f5 0) w') (fun t12 w13 =>
    GuardK t10 true (fun k w' => k (f5 1) w') (fun t14 w15 =>
    GuardK t10 true (fun k w' => k (f5 2) w') (fun t16 w17 =>
    GuardK t10 true (fun k w' => Rd Try.prog (WS.at w17) (sSlice 27 t16 (some (.int .i64 1)) none none) fun v => k v w') (fun t18 w19 =>
    GuardK t10 true (fun k w' => k (f5 11) w') (fun t20 w21 =>
    GuardK t10 true (fun k w' => k (f5 4) w') (fun t22 w23 =>
    GuardK t10 true (fun k w' => CallK Try.prog 161 [t12, t14, t18, t20, t22] k w') (fun t24 w25 =>
    Rd Try.prog (WS.at w25) (sPick t10 t24 (.bool false)) fun t26 =>
    CondK t26
     (Q4 .ret (F.upd (F.upd (F.upd (F.upd (F.upd (F.upd (F.upd (F.upd (F.upd (F.upd (F.upd (F.upd (F.upd (F.upd (F.upd (F.upd (F.upd (F.upd (F.upd (F.upd (F.upd f5 19 (f5 11)) 20 (f5 4)) 21 t7) 24 (f5 0)) 25 (f5 1)) 26 (f5 2)) 27 t8) 28 t9) 29 (f5 3)) 30 (f5 11)) 31 t10) 32 t10) 33 t12) 34 t14) 35 t16) 36 t18) 37 t20) 38 t22) 39 t24) 40 t26) 10 (.bool true)) w25)
     (Rd Try.prog (WS.at w25) (sBin .add 3 true (f5 11) (.int .i64 1)) fun t27 =>
     Q4 .normal (F.upd (F.upd (F.upd (F.upd (F.upd (F.upd (F.upd (F.upd (F.upd (F.upd (F.upd (F.upd (F.upd (F.upd (F.upd (F.upd (F.upd (F.upd (F.upd (F.upd (F.upd (F.upd (F.upd f5 19 (f5 11)) 20 (f5 4)) 21 t7) 24 (f5 0)) 25 (f5 1)) 26 (f5 2)) 27 t8) 28 t9) 29 (f5 3)) 30 (f5 11)) 31 t10) 32 t10) 33 t12) 34 t14) 35 t16) 36 t18) 37 t20) 38 t22) 39 t24) 40 t26) 22 (f5 11)) 23 t27) 11 t27) w25)) w23) w21) w19) w17) w15) w13) w11) w6)
    (Q4 (.exit 0) (F.upd (F.upd (F.upd f5 19 (f5 11)) 20 (f5 4)) 21 t7) w6))
   (blockQ 0 (seqQ (fun f28 w29 =>
  k (.bool false) w29) (bodyQ Try.prog [.tmp 10] k)))
   (F.upd (F.upd (F.upd (F.upd (F.upd (F.upd (initF [v0, v1, v2, v3, v4]) 10 (.bool false)) 12 v2) 13 t1) 14 t2) 18 v3) 11 v3) w)
theorem body161 : Try.f161.body = some (bodyOf Try.f161) := by kernel_rfl
theorem same161 (v0 v1 v2 v3 v4 : Value) (k : Value → World → Prop) (w : World) : wpF Try.prog pl161 (bodyOf Try.f161) (bodyQ Try.prog Try.f161.results.toList k) (initF [v0, v1, v2, v3, v4]) w = S161 v0 v1 v2 v3 v4 k w := by kernel_rfl
theorem enter161 {v0 v1 v2 v3 v4 : Value} {k : Value → World → Prop} {w : World} (h : S161 v0 v1 v2 v3 v4 k w) : CallK Try.prog 161 [v0, v1, v2, v3, v4] k w :=
  call_of_wpF (pl := pl161) mixed Try.func161 body161 (by kernel_rfl) (of_decide_eq_true (by kernel_rfl)) (by kernel_rfl) (by kernel_rfl) (Eq.mpr (same161 v0 v1 v2 v3 v4 k w) h)

/-! loop.example/g00758/spec.l4Symbol -/
def pl255 : Plans := fun _ => ⟨false, [], .nil⟩
def S255 (v0 v1 v2 v3 v4 : Value) (k : Value → World → Prop) (w : World) : Prop :=
 Rd Try.prog (WS.at w) (sBin .lss 3 true v2 (.int .i64 0)) fun t1 =>
 CondK t1
  (Rd Try.prog (WS.at w) (sBin .add 3 true v3 (.int .i64 1)) fun t2 =>
  Rd Try.prog (WS.at w) (sBin .eql 3 false v4 t2) fun t3 =>
  GuardK t3 true (fun k w' => k v1 w') (fun t4 w5 =>
  GuardK t3 true (fun k w' => k v3 w') (fun t6 w7 =>
  GuardK t3 true (fun k w' => Rd Try.prog (WS.at w7) (sIndexAddr 27 t4 t6) fun v => k v w') (fun t8 w9 =>
  GuardK t3 true (fun k w' => Rd Try.prog (WS.at w9) (sLoad 3 t8) fun v => k v w') (fun t10 w11 =>
  GuardK t3 true (fun k w' => k v2 w') (fun t12 w13 =>
  GuardK t3 true (fun k w' => Rd Try.prog (WS.at w13) (sBin .sub 3 true (.int .i64 (-1)) t12) fun v => k v w') (fun t14 w15 =>
  GuardK t3 true (fun k w' => Rd Try.prog (WS.at w15) (sBin .eql 3 false t10 t14) fun v => k v w') (fun t16 w17 =>
  Rd Try.prog (WS.at w17) (sPick t3 t16 (.bool false)) fun t18 =>
  k t18 w17) w15) w13) w11) w9) w7) w5) w)
  (Rd Try.prog (WS.at w) (sIndexAddr 134 v0 v2) fun t19 =>
  Rd Try.prog (WS.at w) (sLoad 136 t19) fun t20 =>
  Rd Try.prog (WS.at w) (sBuiltin .len #[27] 3 [false] [v1]) fun t21 =>
  Rd Try.prog (WS.at w) (sBin .add 3 true t21 (.int .i64 1)) fun t22 =>
  Rd Try.prog (WS.at w) (sBin .mul 3 false v3 t22) fun t23 =>
  Rd Try.prog (WS.at w) (sBin .add 3 false t23 v4) fun t24 =>
  Rd Try.prog (WS.at w) (sIndexAddr 136 t20 t24) fun t25 =>
  Rd Try.prog (WS.at w) (sLoad 4 t25) fun t26 =>
  k t26 w)
theorem body255 : Try.f255.body = some (bodyOf Try.f255) := by kernel_rfl
theorem same255 (v0 v1 v2 v3 v4 : Value) (k : Value → World → Prop) (w : World) : wpF Try.prog pl255 (bodyOf Try.f255) (bodyQ Try.prog Try.f255.results.toList k) (initF [v0, v1, v2, v3, v4]) w = S255 v0 v1 v2 v3 v4 k w := by kernel_rfl
theorem enter255 {v0 v1 v2 v3 v4 : Value} {k : Value → World → Prop} {w : World} (h : S255 v0 v1 v2 v3 v4 k w) : CallK Try.prog 255 [v0, v1, v2, v3, v4] k w :=
  call_of_wpF (pl := pl255) mixed Try.func255 body255 (by kernel_rfl) (of_decide_eq_true (by kernel_rfl)) (by kernel_rfl) (by kernel_rfl) (Eq.mpr (same255 v0 v1 v2 v3 v4 k w) h)

end Go.Proofs.Ytegcjkhebecgbaa

/- Contracts: what derives a part of a word, by the reference. -/
set_option linter.unusedVariables false
set_option linter.unusedSimpArgs false
set_option maxRecDepth 100000
namespace Go.Sh
open Go
/-- The reference's table in memory. -/
structure TabS (w : World) (U : Option Addr) (nons n : Nat) (T : Tab) : Prop where
  ptr : 0 < nons → U = some (ad U)
  row : ∀ x, x < nons → ∃ R c, w.cell? ((ad U).add x) = some (.slice R (n * n) c) ∧ R = some (ad R) ∧ ∀ i j, i < n → j < n → w.cell? ((ad R).add (i * n + j)) = some (.bool (T x i j))
theorem TabS.gr {w w' : World} {U : Option Addr} {nons n : Nat} {T : Tab} (h : TabS w U nons n T) (g : Gr w w') : TabS w' U nons n T := ⟨h.ptr, fun x hx => by
  obtain ⟨R, c, h1, h2, h3⟩ := h.row x hx
  exact ⟨R, c, g.cell h1, h2, fun i j hi hj => g.cell (h3 i j hi hj)⟩⟩
/-- The rows of a table. -/
def rowB (T : Tab) (n x : Nat) : List Value := (List.range (n * n)).map fun p => .bool (T x (p / n) (p % n))
def rowsB (T : Tab) (nons n : Nat) : List (List Value) := (List.range nons).map (rowB T n)
theorem rowB_length (T : Tab) (n x : Nat) : (rowB T n x).length = n * n := by simp [rowB]
theorem rowsB_length (T : Tab) (nons n : Nat) : (rowsB T nons n).length = nons := by simp [rowsB]
theorem vls_rowsB {T : Tab} {nons n x : Nat} (h : x < nons) : vls (rowsB T nons n) x = rowB T n x := by
  rw [vls_eq (by rw [rowsB_length]; exact h)]
  simp [rowsB]
theorem place_lt {n i j : Nat} (hi : i < n) (hj : j < n) : i * n + j < n * n := by
  have : (i + 1) * n ≤ n * n := Nat.mul_le_mul_right n hi
  rw [Nat.add_mul] at this
  omega
theorem rowB_at {T : Tab} {n x i j : Nat} (hi : i < n) (hj : j < n) : (rowB T n x)[i * n + j]? = some (.bool (T x i j)) := by
  have hn : 0 < n := by omega
  have e1 : (i * n + j) / n = i := by rw [Nat.mul_comm, Nat.mul_add_div hn, Nat.div_eq_of_lt hj, Nat.add_zero]
  have e2 : (i * n + j) % n = j := by rw [Nat.mul_comm, Nat.mul_add_mod, Nat.mod_eq_of_lt hj]
  simp [rowB, place_lt hi hj, e1, e2]
theorem rowB_put {T : Tab} {n x i j : Nat} (hi : i < n) (hj : j < n) : (rowB T n x).set (i * n + j) (.bool true) = rowB (T.put x i j) n x := by
  have hn : 0 < n := by omega
  refine List.ext_getElem? fun p => ?_
  rw [List.getElem?_set]
  by_cases hp : i * n + j = p
  · subst hp
    rw [if_pos rfl, if_pos (by rw [rowB_length]; exact place_lt hi hj), rowB_at hi hj]
    simp [Tab.put]
  · rw [if_neg hp]
    simp only [rowB, List.getElem?_map, List.getElem?_range']
    by_cases hlt : p < n * n
    · simp only [List.getElem?_range hlt, Option.map_some, Tab.put]
      have : ¬ (x = x ∧ p / n = i ∧ p % n = j) := by
        rintro ⟨_, h1, h2⟩
        apply hp
        have := Nat.div_add_mod p n
        rw [h1, h2, Nat.mul_comm] at this
        exact this
      rw [if_neg (fun h => this ⟨rfl, h.2⟩)]
    · rw [List.getElem?_eq_none (by simp; omega)]
      rfl
theorem rowB_other {T : Tab} {n x y i j : Nat} (h : y ≠ x) : rowB (T.put x i j) n y = rowB T n y := by
  simp [rowB, Tab.put, h]
theorem rowsB_put {T : Tab} {nons n x i j : Nat} (hx : x < nons) (hi : i < n) (hj : j < n) : (rowsB T nons n).set x ((vls (rowsB T nons n) x).set (i * n + j) (.bool true)) = rowsB (T.put x i j) nons n := by
  rw [vls_rowsB hx, rowB_put hi hj]
  refine List.ext_getElem? fun p => ?_
  rw [List.getElem?_set]
  by_cases hp : x = p
  · subst hp
    rw [if_pos rfl, if_pos (by rw [rowsB_length]; exact hx)]
    simp [rowsB, hx]
  · rw [if_neg hp]
    by_cases hlt : p < nons
    · simp [rowsB, hlt, rowB_other (fun e => hp e.symm)]
    · rw [List.getElem?_eq_none (by rw [rowsB_length]; omega), List.getElem?_eq_none (by rw [rowsB_length]; omega)]
theorem OwnV.tab {e1 e2 : Nat} {w : World} {B c nons n : Nat} {X : Option Addr} {T : Tab} {ps : Nat → Option Addr × Nat} (h : OwnV e1 e2 w B X c (rowsB T nons n) ps) (hn : 0 < n) : TabS w X nons n T := by
  refine ⟨fun hp => h.ptr (by rw [rowsB_length]; exact hp), fun x hx => ?_⟩
  have hx' : x < (rowsB T nons n).length := by rw [rowsB_length]; exact hx
  have hc := h.cell hx'
  have ho := h.own x hx'
  rw [vls_rowsB hx, rowB_length] at hc ho
  refine ⟨_, _, hc, ho.ptr (Nat.mul_pos hn hn), fun i j hi hj => ho.src.cell _ _ (rowB_at hi hj)⟩
theorem foldl_range {α : Type} (f : α → Nat → α) (s : α) (n : Nat) : (List.range (n + 1)).foldl f s = f ((List.range n).foldl f s) n := by
  rw [List.range_succ, List.foldl_append]
  rfl
theorem foldl_range' {α : Type} (f : α → Nat → α) (s : α) (a n : Nat) : (List.range' a (n + 1)).foldl f s = f ((List.range' a n).foldl f s) (a + n) := by
  rw [List.range'_concat, List.foldl_append]
  simp
theorem foldl_take {α : Type} (f : α → RuleL → α) (s : α) (rs : List RuleL) {n : Nat} (h : n < rs.length) : (rs.take (n + 1)).foldl f s = f ((rs.take n).foldl f s) (rul rs n) := by
  rw [List.take_succ_eq_append_getElem h, List.foldl_append, rul_eq h]
  rfl
end Go.Sh
namespace Go.Proofs.Ytegcjkhebecgbaa
open Go Go.Sh Go.RowKit

theorem l4Symbol_c {w : World} {U X : Option Addr} {cu cx nons : Nat} {T : Tab} {ws : List Int} {x : Int} {i j : Nat} (hT : TabS w U nons (ws.length + 1) T) (hX : Ints w X ws) (hl : ws.length ≤ 10) (hx : x < nons) (hx0 : -100 ≤ x) (hi : i ≤ j) (hj : j ≤ ws.length) {k : Value → World → Prop} (hk : k (.bool (symT T ws x i j)) w) :
    CallK Try.prog 255 [.slice U nons cu, .slice X ws.length cx, .int .i64 x, .int .i64 i, .int .i64 j] k w := by
  refine enter255 ?_
  unfold S255
  simp only [go_sem, Nat.reduceEqDiff]
  by_cases hneg : x < 0
  · simp only [hneg, decide_true, go_sem, Nat.reduceEqDiff]
    rw [i64_of (n := (i : Int) + 1) (by omega) (by omega)]
    unfold symT at hk
    rw [if_pos hneg] at hk
    by_cases he : j = i + 1
    · subst he
      simp only [show (((i + 1 : Nat) : Int) = (i : Int) + 1) from rfl, decide_true, go_sem, Nat.reduceEqDiff]
      rw [ixn27 hX.ptr (by omega), ld3 (hX.cell i (by omega))]
      simp only [go_sem, Nat.reduceEqDiff]
      rw [i64_of (by omega) (by omega)]
      simpa only [decide_true, Bool.true_and] using hk
    · simp only [show ¬ ((j : Int) = (i : Int) + 1) from by omega, decide_false, go_sem, Nat.reduceEqDiff]
      simpa only [he, decide_false, Bool.false_and] using hk
  · simp only [hneg, decide_false, go_sem, Nat.reduceEqDiff]
    unfold symT at hk
    rw [if_neg hneg] at hk
    obtain ⟨x, rfl⟩ : ∃ x' : Nat, x = x' := ⟨x.toNat, by omega⟩
    rw [Int.toNat_natCast] at hk
    obtain ⟨R, c, h1, h2, h3⟩ := hT.row x (by omega)
    have hm : (i : Int) * ((ws.length : Int) + 1) = ((i * (ws.length + 1) : Nat) : Int) := by push_cast; rfl
    have hb := place_lt (n := ws.length + 1) (show i < ws.length + 1 by omega) (show j < ws.length + 1 by omega)
    have hnn : (ws.length + 1) * (ws.length + 1) ≤ 11 * 11 := Nat.mul_le_mul (by omega) (by omega)
    rw [ixn134 (fun h => hT.ptr h) (by omega), ld136 h1, i64_of (n := (ws.length : Int) + 1) (by omega) (by omega), hm, i64_of (n := ((i * (ws.length + 1) : Nat) : Int)) (by omega) (by omega), i64_of (by omega) (by omega)]
    rw [show (((i * (ws.length + 1) : Nat) : Int) + (j : Int)) = ((i * (ws.length + 1) + j : Nat) : Int) from by push_cast; rfl]
    rw [ixn136 (fun _ => h2) hb, ld4 (h3 i j (by omega) (by omega))]
    exact hk
theorem l4Fits_c {ws : List Int} (hl : ws.length ≤ 10) {nons : Nat} : ∀ (right : List Int) {w : World} {U X Y : Option Addr} {cu cx cy : Nat} {T : Tab} {i j : Nat} {k : Value → World → Prop}, TabS w U nons (ws.length + 1) T → Ints w X ws → Ints w Y right → right.length ≤ cy → (∀ x ∈ right, x < nons ∧ -100 ≤ x) → i ≤ j → j ≤ ws.length → k (.bool (fitsT T ws right i j)) w →
    CallK Try.prog 161 [.slice U nons cu, .slice X ws.length cx, .slice Y right.length cy, .int .i64 i, .int .i64 j] k w := by
  intro right
  induction right with
  | nil =>
    intro w U X Y cu cx cy T i j k hT hX hY hcy hr hi hj hk
    refine enter161 ?_
    unfold S161
    simp only [go_sem, List.length_nil]
    simp only [Int.natCast_zero, decide_true, go_sem, Nat.reduceEqDiff, Int.natCast_inj]
    exact hk
  | cons x right ih =>
    intro w U X Y cu cx cy T i j k hT hX hY hcy hr hi hj hk
    refine enter161 ?_
    unfold S161
    simp only [go_sem, List.length_cons]
    simp only [show ¬ (((right.length + 1 : Nat) : Int) = 0) from by omega, decide_false, go_sem, Nat.reduceEqDiff]
    have hfs : fitsT T ws (x :: right) i j = (List.range' i (j + 1 - i)).any fun m => symT T ws x i m && fitsT T ws right m j := rfl
    rw [hfs] at hk
    have hx := hr x (List.mem_cons_self ..)
    have hr' : ∀ y ∈ right, y < nons ∧ -100 ≤ y := fun y hy => hr y (List.mem_cons_of_mem _ hy)
    have hYl := hY.le
    simp only [List.length_cons] at hYl hcy
    have hY' : Ints w (sub Y 1 cy 1) right := by
      have := hY.sub (l := 1) (c := cy) (by simp) (by simp; omega) (right.length)
      simpa using this
    refine loop_to (j + 1) i (fun m f w' => i ≤ m ∧ m ≤ j + 1 ∧ f 11 = .int .i64 m ∧ (∀ m', i ≤ m' → m' < m → (symT T ws x i m' && fitsT T ws right m' j) = false) ∧ w' = w) ⟨Nat.le_refl _, by omega, rfl, fun m' h1 h2 => by omega, rfl⟩ ?_
    rintro m f w' N hag ⟨hm1, hm2, h11, hno, rfl⟩ hN
    have f0 : f 0 = .slice U nons cu := hag 0 (by decide)
    have f1 : f 1 = .slice X ws.length cx := hag 1 (by decide)
    have f2 : f 2 = .slice Y (right.length + 1) cy := hag 2 (by decide)
    have f3 : f 3 = .int .i64 i := hag 3 (by decide)
    have f4 : f 4 = .int .i64 j := hag 4 (by decide)
    simp only [f0, f1, f2, f3, f4, h11, go_sem, Nat.reduceEqDiff]
    by_cases hle : m ≤ j
    case neg =>
      simp only [show ¬ ((m : Int) ≤ j) from by omega, decide_false, go_sem, Nat.reduceEqDiff]
      rw [any_upto (fun m' h1 h2 => hno m' h1 (by omega))] at hk
      exact hk
    simp only [show ((m : Int) ≤ j) from by omega, decide_true, go_sem, Nat.reduceEqDiff]
    rw [ix27_0 (fun _ => hY.ptr (by simp)) (by omega), ld3 (hY.cell 0 (by simp))]
    simp only [List.getD_cons_zero]
    refine l4Symbol_c hT hX hl hx.1 hx.2 hm1 (by omega) ?_
    cases hs : symT T ws x i m
    · simp only [go_sem, Nat.reduceEqDiff]
      rw [i64_of (by omega) (by omega)]
      exact hN _ _ (by omega) ⟨by omega, by omega, rfl, fun m' h1 h2 => by
        by_cases e : m' = m
        · rw [e, hs, Bool.false_and]
        · exact hno m' h1 (by omega), rfl⟩
    · simp only [go_sem, Nat.reduceEqDiff]
      rw [sll27 (by decide) (by omega)]
      rw [show (1 : Int).toNat = 1 from rfl, Nat.add_sub_cancel]
      refine ih hT hX hY' (by omega) hr' (by omega) hj ?_
      cases hf : fitsT T ws right m j
      · simp only [go_sem, Nat.reduceEqDiff]
        rw [i64_of (by omega) (by omega)]
        exact hN _ _ (by omega) ⟨by omega, by omega, rfl, fun m' h1 h2 => by
          by_cases e : m' = m
          · rw [e, hf, Bool.and_false]
          · exact hno m' h1 (by omega), rfl⟩
      · simp only [go_sem, Nat.reduceEqDiff]
        rw [any_at hm1 hle (by rw [hs, hf]; rfl)] at hk
        exact hk
end Go.Proofs.Ytegcjkhebecgbaa

/- Contract: the parts of a tree, told by the reference. -/
set_option linter.unusedVariables false
set_option linter.unusedSimpArgs false
set_option maxRecDepth 100000
namespace Go.Sh
open Go
theorem drop_getD {R : List Int} {i : Nat} (h : i < R.length) : R.drop i = R.getD i 0 :: R.drop (i + 1) := by
  rw [List.drop_eq_getElem_cons h]
  simp [List.getD_eq_getElem?_getD, h]
end Go.Sh
namespace Go.Proofs.Ytegcjkhebecgbaa
open Go Go.Sh Go.RowKit

end Go.Proofs.Ytegcjkhebecgbaa

/- Contracts: the parts of a tree in memory, and the two that can be pumped, by the program. -/
set_option linter.unusedVariables false
set_option linter.unusedSimpArgs false
set_option maxRecDepth 100000
namespace Go.Sh
open Go
theorem partsL_take {ks : List PT} {i : Nat} (h : i < ks.length) : PT.partsL (ks.take (i + 1)) = PT.partsL (ks.take i) ++ (ptn ks i).parts := by
  rw [List.take_succ_eq_append_getElem h, partsL_append, ptn_eq h]
  simp [PT.partsL]
theorem partsL_take_le {ks : List PT} (i : Nat) : (PT.partsL (ks.take i)).length ≤ (PT.partsL ks).length := by
  have e : PT.partsL ks = PT.partsL (ks.take i) ++ PT.partsL (ks.drop i) := by rw [← partsL_append, List.take_append_drop]
  rw [e, List.length_append]
  omega
theorem ptrs_one (bs : List Nat) : ∀ v ∈ bs.map ptrv, v.oneCell' = true := by
  intro v hv
  obtain ⟨b, _, rfl⟩ := List.mem_map.1 hv
  rfl
theorem ptrs_at {bs : List Nat} {i : Nat} (h : i < bs.length) : (bs.map ptrv)[i]? = some (ptrv (bs.getD i 0)) := by simp [List.getD_eq_getElem?_getD, h]
theorem ptn_drop {ps : List PT} {i n j : Nat} (hj : j < n) : ptn ((ps.drop i).take n) j = ptn ps (i + j) := by
  simp [ptn, List.getD_eq_getElem?_getD, List.getElem?_take, hj]
theorem kids_le (ks : List PT) : ks.length ≤ (PT.partsL ks).length := by
  induction ks with
  | nil => simp [PT.partsL]
  | cons k ks ih =>
    rw [PT.partsL, parts_cons]
    simp
    omega
theorem run_equal_nil {P : Program} {t e : TypeId} {a : Option Addr} (ht : P.underlying t = some (.pointer e)) (d : Nat) (w : World) : (Op.equalIn (d + 1) t (.pointer a) (.pointer none)).run P w = .ok a.isNone w := by
  cases a <;> simp [Op.equalIn, run_underlying ht]
theorem bin_eql_ptr {P : Program} {S : WS} {k : Value → Prop} {t e : TypeId} {c : Bool} {a : Option Addr} (ht : P.underlying t = some (.pointer e)) : Rd P S (sBin .eql t c (.pointer a) (.pointer none)) k = k (.bool a.isNone) := rd_eq fun w _ => by
  have e1 : (eqGuard .eql t (if c then .const undef else .tmp 0) (.tmp 0) (.pointer a) (.pointer none)).run P w = .ok () w := rfl
  have e2 : (binOp .eql t (.pointer a) (.pointer none)).run P w = .ok (.bool a.isNone) w := by
    show Sem.run P (do pure (Value.bool (← Op.equalIn (9999 + 1) t (.pointer a) (.pointer none)))) w = _
    simp only [Sem.run_bind, run_equal_nil ht 9999 w, Result.andThen]
    rfl
  simp only [sBin, Sem.run_bind, e1, Result.andThen, e2]
  rfl
end Go.Sh
namespace Go.Proofs.Ytegcjkhebecgbaa
open Go Go.Sh Go.RowKit

theorem parts_c : ∀ (n : Nat) {F : Nat → Prop} {w : World} {p : PT} {b : Nat} {k : Value → World → Prop}, p.parts.length ≤ n → n ≤ 1000 → (∀ q, F q → q < w.heap.size) → PartAt F w p b →
    (∀ w' U d bs, Gr w w' → Row w' w.heap.size 151 1 U (List.length bs) d (bs.map ptrv) → AllPt F w' p.parts bs → k (.slice U (List.length bs) d) w') → CallK Try.prog 227 [ptrv b] k w := by
  intro n
  induction n with
  | zero =>
    intro F w p b k hn
    rw [parts_cons] at hn
    simp at hn
  | succ n ih =>
    intro F w p b k hn hn1 hF hp hk
    obtain ⟨X, c, hb, hX, hc, hks⟩ := hp.box
    refine enter227 ?_
    unfold S227
    rw [parts_cons] at hn hk
    simp only [List.length_cons] at hn
    have hkl := kids_le p.kids
    have H := Apt.nil w
    refine buildH H u154 inf151 [ptrv b] (by decide) (by decide) (by simp [Instr.fill, madeCells, Value.cells, rng1]) rfl fun b1 w1 H => ?_
    simp only [go_sem, Nat.reduceEqDiff]
    rw [ldB154 (hb.gr H.gr) rfl]
    simp only [go_sem, Nat.reduceEqDiff]
    refine loop_to p.kids.length 0 (fun i f w' => i ≤ p.kids.length ∧ f 13 = .int .i64 i ∧ ∃ (U : Option Addr) (d : Nat) (bs : List Nat), f 3 = .slice U bs.length d ∧ AllPt F w' (p :: PT.partsL (p.kids.take i)) bs ∧ Apt w w' [rwi 151 1 U bs.length d (bs.map ptrv)])
      ⟨Nat.zero_le _, rfl, _, _, [b], rfl, by simpa [PT.partsL] using AllPt.one (hp.gr H.gr), H⟩ ?_
    rintro i f w2 N hag ⟨hi, h13, U, d, bs, h3, hA, H⟩ hN
    have f11 : f 11 = .slice X p.kids.length c := hag 11 (by decide)
    have f12 : f 12 = .int .i64 p.kids.length := hag 12 (by decide)
    simp only [f11, f12, h13, h3, go_sem, Nat.reduceEqDiff]
    by_cases hlt : i < p.kids.length
    · simp only [show (i : Int) < p.kids.length from by omega, decide_true, go_sem, Nat.reduceEqDiff]
      obtain ⟨bk, hcell, hpart⟩ := hks.get hlt
      rw [Nat.zero_add] at hcell
      have hle := partsL_take_le (ks := p.kids) (i + 1)
      rw [partsL_take hlt, List.length_append] at hle
      have hAl := hA.1
      simp only [List.length_cons] at hAl
      rw [ixn154 hX hlt, ld151 (H.gr.cell hcell)]
      have G2 := H.gr
      refine ih (by omega) (by omega) (fun q hq => Nat.lt_of_lt_of_le (hF q hq) H.gr.size) (hpart.gr H.gr) fun w3 V d' cs g3 r3 a3 => ?_
      have H := H.addRow g3 r3
      have hal := a3.1
      refine appendH H 0 rfl u154 inf151 rfl (by decide) (Row.src (H.row 1 rfl)) (by simp) (ptrs_one cs) (by omega) (by omega) fun X' c' w4 H => ?_
      have H := H.erase 1
      have hA' := (hA.append (a3.across hF (gr_trans G2 g3) G2)).across hF G2 H.gr
      rw [i64_of (by omega) (by omega)]
      refine hN _ _ hlt ⟨hlt, rfl, X', c', bs ++ cs, by rw [List.length_append]; rfl, ?_, ?_⟩
      · rw [partsL_take hlt]
        exact hA'
      · rw [List.map_append, List.length_append]
        exact H
    · simp only [show ¬ (i : Int) < p.kids.length from by omega, decide_false, go_sem, Nat.reduceEqDiff]
      rw [List.take_of_length_le (by omega)] at hA
      exact hk _ U d bs H.gr (H.row 0 rfl) hA
end Go.Proofs.Ytegcjkhebecgbaa

/- Contracts: what of a tree can be pumped, by the reference. -/
set_option linter.unusedVariables false
set_option linter.unusedSimpArgs false
set_option maxRecDepth 100000
namespace Go.Sh
open Go
def pumpR (ps : List PT) (i j : Nat) : List Int := [i, j, (ptn ps i).fr, (ptn ps j).fr, (ptn ps j).to, (ptn ps i).to]
theorem dry_next {ps : List PT} {p q : Nat} (h : Dry ps p q) (hf : pairT (ptn ps p) (ptn ps q) = false) : Dry ps p (q + 1) := fun q' h1 h2 => by
  by_cases e : q' = q
  · rw [e]; exact hf
  · exact h q' h1 (by omega)
/-- The whole tree that a list of rules is. -/
structure Whole (gm : Gram) (tree : List Int) (p : PT) (ws : List Int) : Prop where
  good : goodG gm = true
  le : tree.length ≤ 60
  read : readT gm.rules tree tree.length 0 0 [] = some (p, ws)
  fin : p.fin = tree.length
theorem Whole.laid {gm : Gram} {tree : List Int} {p : PT} {ws : List Int} (h : Whole gm tree p ws) : Laid p.parts 0 := (readT_laid _ _ _ _ _ _ _ _ h.read).1
theorem Whole.len {gm : Gram} {tree : List Int} {p : PT} {ws : List Int} (h : Whole gm tree p ws) : p.parts.length = tree.length := by
  have := (readT_laid _ _ _ _ _ _ _ _ h.read).2.1
  have := h.fin
  omega
theorem Whole.words {gm : Gram} {tree : List Int} {p : PT} {ws : List Int} (h : Whole gm tree p ws) : ws.length ≤ 240 := by
  have := (readT_words (good_rule h.good) _ _ _ _ _ _ h.read).2
  have := h.len
  have := h.le
  simp at *
  omega
theorem asked_whole {gm : Gram} {tree : List Int} : (askedT gm tree = true → ∃ p ws, Whole gm tree p ws) ∧ (askedT gm tree = false → ∀ p ws, ¬ Whole gm tree p ws) := by
  have he := endT_eq gm.rules tree tree.length 0 0 []
  constructor
  · intro h
    simp only [askedT, isT, Bool.and_eq_true, decide_eq_true_eq] at h
    rw [h.2.2] at he
    cases hz : readT gm.rules tree tree.length 0 0 [] with
    | none => rw [hz] at he; cases he
    | some z =>
      rw [hz] at he
      exact ⟨z.1, z.2, h.1.1, h.1.2, hz, by simpa using he.symm⟩
  · intro h p ws hw
    have h1 : askedT gm tree = true := by
      simp only [askedT, isT, Bool.and_eq_true, decide_eq_true_eq]
      refine ⟨⟨hw.good, hw.le⟩, ?_, ?_⟩
      · have := hw.len
        rw [parts_cons] at this
        simp at this
        omega
      · rw [he, hw.read]
        simp [hw.fin]
    rw [h] at h1
    cases h1
end Go.Sh
namespace Go.Proofs.Ytegcjkhebecgbaa
open Go Go.Sh Go.RowKit

end Go.Proofs.Ytegcjkhebecgbaa

/- Contracts: PumpOf, PathIn, PumpTree of the reference. -/
set_option linter.unusedVariables false
set_option linter.unusedSimpArgs false
set_option maxRecDepth 100000
namespace Go.Sh
open Go
def wholeP (gm : Gram) (tree : List Int) : Option PT := if askedT gm tree = true then (readT gm.rules tree tree.length 0 0 []).map fun z => z.1 else none
theorem whole_no {gm : Gram} {tree : List Int} (h : askedT gm tree = false) : wholeP gm tree = none := by
  unfold wholeP
  rw [h]
  rfl
theorem Whole.eq {gm : Gram} {tree : List Int} {p : PT} {ws : List Int} (h : Whole gm tree p ws) : wholeP gm tree = some p := by
  have ha : askedT gm tree = true := by
    cases e : askedT gm tree with
    | true => rfl
    | false => exact absurd h (asked_whole.2 e p ws)
  unfold wholeP
  rw [if_pos ha, h.read]
  rfl
def pumpOfV (gm : Gram) (tree : List Int) : List Int × Bool := match wholeP gm tree with
  | none => ([], false)
  | some p => match pumpV p.parts with
    | none => ([], false)
    | some (i, j) => (pumpR p.parts i j, true)
def treeCuts (ps : List PT) (i j : Nat) : List Int := [i, j, (ptn ps j).fin, (ptn ps i).fin]
def Good1 (q : PT) : Prop := Laid q.parts q.at_ ∧ q.fin = q.at_ + q.parts.length
theorem readR_each {rec : Int → Nat → List Int → Option (PT × List Int)} (h : ∀ x a w p w', rec x a w = some (p, w') → ∀ q ∈ p.parts, Good1 q) : ∀ (xs : List Int) (e : Nat) (w : List Int) (ks : List PT) {ks' : List PT} {e' : Nat} {w' : List Int}, readR rec xs e w ks = some (ks', e', w') → (∀ q ∈ PT.partsL ks, Good1 q) → ∀ q ∈ PT.partsL ks', Good1 q := by
  intro xs
  induction xs with
  | nil =>
    intro e w ks ks' e' w' hr hq
    simp only [readR, Option.some.injEq, Prod.mk.injEq] at hr
    obtain ⟨rfl, rfl, rfl⟩ := hr
    exact hq
  | cons x xs ih =>
    intro e w ks ks' e' w' hr hq
    unfold readR at hr
    split at hr
    · exact ih _ _ _ hr hq
    · split at hr
      · cases hr
      · rename_i k w1 hz
        refine ih _ _ _ hr fun q hm => ?_
        rw [partsL_append] at hm
        rcases List.mem_append.1 hm with hm | hm
        · exact hq q hm
        · simp only [PT.partsL, List.append_nil] at hm
          exact h _ _ _ _ _ hz q hm
theorem readT_each {rs : List RuleL} {tree : List Int} : ∀ (f : Nat) (non : Int) (a : Nat) (w : List Int) (p : PT) (w' : List Int), readT rs tree f non a w = some (p, w') → ∀ q ∈ p.parts, Good1 q := by
  intro f
  induction f with
  | zero => intro non a w p w' h; cases h
  | succ f ih =>
    intro non a w p w' h q hq
    obtain ⟨h1, h2, h3, _⟩ := readT_laid _ _ _ _ _ _ _ _ h
    rw [parts_cons] at hq
    rcases List.mem_cons.1 hq with rfl | hq
    · exact ⟨by rw [h3]; exact h1, by rw [h3]; exact h2⟩
    · obtain ⟨_, ks, e, _, _, _, _, hR, rfl⟩ := readT_some h
      exact readR_each (fun x a w p w' hh => ih x a w p w' hh) _ _ _ _ hR (fun q hm => by simp [PT.partsL] at hm) q hq
theorem Whole.nest {gm : Gram} {tree : List Int} {p : PT} {ws : List Int} (hW : Whole gm tree p ws) {i j : Nat} (hi : i < p.parts.length) (hij : i ≤ j) (hj : j < (ptn p.parts i).fin) : (ptn p.parts j).fin ≤ (ptn p.parts i).fin := by
  obtain ⟨l1, l2, l3, l4⟩ := hW.laid i hi
  have hg := readT_each _ _ _ _ _ _ hW.read (ptn p.parts i) (by rw [ptn_eq hi]; exact List.getElem_mem hi)
  rw [← ptn_eq hi] at l1 l2 l3 l4
  obtain ⟨g1, g2⟩ := hg
  have hd : j - i < (ptn p.parts i).parts.length := by omega
  have := (g1 (j - i) hd).2.1
  rw [← ptn_eq hd, l4, ptn_drop (by omega), show i + (j - i) = j from by omega, ← l4] at this
  omega
end Go.Sh
namespace Go.Proofs.Ytegcjkhebecgbaa
open Go Go.Sh Go.RowKit

theorem cuts_of {p : PT} {gm : Gram} {tree : List Int} {ws : List Int} (hW : Whole gm tree p ws) {i j : Nat} (he : pumpV p.parts = some (i, j)) : i < p.parts.length ∧ i < j ∧ j < (ptn p.parts i).fin ∧ j < p.parts.length ∧ Cuts (treeCuts p.parts i j) tree.length := by
  have hlen := hW.len
  have hlaid := hW.laid
  have key : i < p.parts.length ∧ i < j ∧ j < (ptn p.parts i).fin := by
    unfold pumpV at he
    obtain ⟨a, ha, h1⟩ := List.exists_of_findSome?_eq_some he
    obtain ⟨b, hb, h2⟩ := List.exists_of_findSome?_eq_some h1
    rw [List.mem_range] at ha
    rw [List.mem_range'_1] at hb
    split at h2
    · simp only [Option.some.injEq, Prod.mk.injEq] at h2
      obtain ⟨rfl, rfl⟩ := h2
      exact ⟨ha, by omega, by omega⟩
    · cases h2
  obtain ⟨h1, h2, h3⟩ := key
  obtain ⟨l1, l2, l3, l4⟩ := hlaid i h1
  rw [← ptn_eq h1] at l1 l2 l3 l4
  have hj : j < p.parts.length := by omega
  have hsub := hW.nest h1 (by omega) h3
  obtain ⟨m1, m2, m3, m4⟩ := hlaid j hj
  rw [← ptn_eq hj] at m1 m2 m3 m4
  refine ⟨h1, h2, h3, hj, rfl, ?_, ?_, ?_, ?_, ?_⟩ <;> simp only [treeCuts, List.getD_cons_zero, List.getD_cons_succ] <;> omega
end Go.Proofs.Ytegcjkhebecgbaa
