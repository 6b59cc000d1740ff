/- Texts of this repository put together: ShK, ShC1, ShC2, ShG5, ShG6, ShH1, ShH2, ShH3, ShH4, ShH5, ShK2, ShP2, ShK3, ShR, ShZ2, Ca, ShZ3. -/
import Derived.Test.YtegcjkhebecgbaaKBesidea
import Derived.WalkKit
import Derived.ProofKit
import Derived.OpenShut
import Derived.ShutString
import Derived.ChangeOld
import Derived.Below
import Derived.SizedLaws
import Derived.Deep.Slices
import Derived.Test.YtegcjkhebecgbaaProg

/- Local state as a list of owned things that lie apart: what each operation does to it. -/
set_option linter.unusedVariables false
set_option linter.unusedSimpArgs false
set_option maxRecDepth 100000
namespace Go.Sh
open Go
/-- What is owned: a fact of the world, and the blocks that it lies in. -/
structure Thing where
  P : World → Prop
  ft : Nat → Prop
structure Thing.Ok (it : Thing) (w0 w : World) : Prop where
  lo : ∀ q, it.ft q → w0.heap.size ≤ q
  hi : ∀ q, it.ft q → q < w.heap.size
  kept : ∀ w', (∀ q, it.ft q → w'.heap[q]? = w.heap[q]?) → it.P w'
theorem Thing.Ok.step {it : Thing} {w0 w w' : World} (h : it.Ok w0 w) (hs : w.heap.size ≤ w'.heap.size) (hb : ∀ q, it.ft q → w'.heap[q]? = w.heap[q]?) : it.Ok w0 w' :=
  ⟨h.lo, fun q hq => Nat.lt_of_lt_of_le (h.hi q hq) hs, fun w'' h'' => h.kept w'' fun q hq => (h'' q hq).trans (hb q hq)⟩
/-- Things that lie apart, all of them younger than w0; nothing else has changed since w0. -/
structure Apt (w0 w : World) (L : List Thing) : Prop where
  gr : Gr w0 w
  ok : ∀ (i : Nat) (it : Thing), L[i]? = some it → it.Ok w0 w
  two : ∀ (i j : Nat) (a b : Thing), i ≠ j → L[i]? = some a → L[j]? = some b → ∀ q, a.ft q → ¬ b.ft q
theorem get_snoc {L : List Thing} {x a : Thing} {i : Nat} (h : (L ++ [x])[i]? = some a) : L[i]? = some a ∨ (i = L.length ∧ a = x) := by
  by_cases hi : i < L.length
  · rw [List.getElem?_append_left hi] at h
    exact .inl h
  · rw [List.getElem?_append_right (by omega)] at h
    have : i - L.length = 0 := by
      have := (List.getElem?_eq_some_iff.1 h).1
      simpa using this
    rw [this] at h
    refine .inr ⟨by omega, ?_⟩
    simpa using h.symm
theorem get_lt {L : List Thing} {a : Thing} {i : Nat} (h : L[i]? = some a) : i < L.length := (List.getElem?_eq_some_iff.1 h).1
theorem get_set {L : List Thing} {x a : Thing} {i j : Nat} (h : (L.set i x)[j]? = some a) : (j = i ∧ a = x) ∨ (j ≠ i ∧ L[j]? = some a) := by
  rw [List.getElem?_set] at h
  by_cases hij : i = j
  · rw [if_pos hij] at h
    split at h
    · exact .inl ⟨hij.symm, by simpa using h.symm⟩
    · cases h
  · rw [if_neg hij] at h
    exact .inr ⟨fun e => hij e.symm, h⟩
theorem Apt.nil (w : World) : Apt w w [] := ⟨Gr.refl w, fun i it h => by simp at h, fun i j a b _ h => by simp at h⟩
theorem Apt.step {w0 w w' : World} {L : List Thing} (H : Apt w0 w L) (g : Gr w w') : Apt w0 w' L :=
  ⟨gr_trans H.gr g, fun i it hi => (H.ok i it hi).step g.size fun q hq => g.block q ((H.ok i it hi).hi q hq) (by simp), H.two⟩
theorem Apt.drew {w0 w : World} {L : List Thing} (H : Apt w0 w L) : Apt w0 w.drew L := H.step (gr_drew w)
theorem Apt.get {w0 w : World} {L : List Thing} (H : Apt w0 w L) (i : Nat) {it : Thing} (hi : L[i]? = some it) : it.P w := (H.ok i it hi).kept w fun _ _ => rfl
theorem Apt.add {w0 w w' : World} {L : List Thing} (H : Apt w0 w L) (g : Gr w w') (it : Thing) (lo : ∀ q, it.ft q → w.heap.size ≤ q) (hi : ∀ q, it.ft q → q < w'.heap.size) (kept : ∀ w'', (∀ q, it.ft q → w''.heap[q]? = w'.heap[q]?) → it.P w'') : Apt w0 w' (L ++ [it]) := by
  have H' := H.step g
  refine ⟨H'.gr, fun i a ha => ?_, fun i j a b hij ha hb q hq hq' => ?_⟩
  · rcases get_snoc ha with h | ⟨_, rfl⟩
    · exact H'.ok i a h
    · exact ⟨fun q hq => Nat.le_trans H.gr.size (lo q hq), hi, kept⟩
  · rcases get_snoc ha with h | ⟨e, rfl⟩ <;> rcases get_snoc hb with h' | ⟨e', rfl⟩
    · exact H.two i j a b hij h h' q hq hq'
    · have := (H.ok i a h).hi q hq
      have := lo q hq'
      omega
    · have := (H.ok j b h').hi q hq'
      have := lo q hq
      omega
    · exact hij (e.trans e'.symm)
theorem Apt.set {w0 w w' : World} {L : List Thing} (H : Apt w0 w L) {i : Nat} {it it' : Thing} (hi : L[i]? = some it) (g : Gx it.ft w w') (lo : ∀ q, it'.ft q → it.ft q ∨ w.heap.size ≤ q) (hh : ∀ q, it'.ft q → q < w'.heap.size) (kept : ∀ w'', (∀ q, it'.ft q → w''.heap[q]? = w'.heap[q]?) → it'.P w'') : Apt w0 w' (L.set i it') := by
  have hit := H.ok i it hi
  have hsz := H.gr.size
  refine ⟨Gx.gr_after H.gr g fun q hq => hit.lo q hq, fun j a ha => ?_, fun j l a b hjl ha hb q hq hq' => ?_⟩
  · rcases get_set ha with ⟨rfl, rfl⟩ | ⟨hj, h⟩
    · refine ⟨fun q hq => ?_, hh, kept⟩
      rcases lo q hq with h | h
      · exact hit.lo q h
      · omega
    · have := H.ok j a h
      exact this.step g.size fun q hq => g.block q (this.hi q hq) fun hq' => H.two j i a it hj h hi q hq hq'
  · rcases get_set ha with ⟨rfl, rfl⟩ | ⟨hj, h⟩ <;> rcases get_set hb with ⟨rfl, rfl⟩ | ⟨hl, h'⟩
    · exact hjl rfl
    · rcases lo q hq with h2 | h2
      · exact H.two _ _ _ _ (fun e => hl e.symm) hi h' q h2 hq'
      · have := (H.ok l b h').hi q hq'
        omega
    · rcases lo q hq' with h2 | h2
      · exact H.two _ _ _ _ hj h hi q hq h2
      · have := (H.ok j a h).hi q hq
        omega
    · exact H.two j l a b hjl h h' q hq hq'
/-- Some of the things alone, in another order. -/
theorem Apt.pick {w0 w : World} {L L' : List Thing} (H : Apt w0 w L) (m : Nat → Nat) (h : ∀ i a, L'[i]? = some a → L[m i]? = some a) (hm : ∀ i j, i < L'.length → j < L'.length → m i = m j → i = j) : Apt w0 w L' :=
  ⟨H.gr, fun i a ha => H.ok _ a (h i a ha), fun i j a b hij ha hb => H.two _ _ a b (fun e => hij (hm i j (get_lt ha) (get_lt hb) e)) (h i a ha) (h j b hb)⟩
theorem Apt.take {w0 w : World} {L : List Thing} (H : Apt w0 w L) (n : Nat) : Apt w0 w (L.take n) := by
  have h : ∀ (i : Nat) (a : Thing), (L.take n)[i]? = some a → L[i]? = some a := fun i a ha => by
    rw [List.getElem?_take] at ha
    split at ha
    · exact ha
    · cases ha
  exact ⟨H.gr, fun i a ha => H.ok i a (h i a ha), fun i j a b hij ha hb => H.two i j a b hij (h i a ha) (h j b hb)⟩

/-- Things of a later stretch beside those of an earlier one. -/
theorem Apt.append {w0 w1 w2 : World} {L M : List Thing} (H : Apt w0 w1 L) (G : Apt w1 w2 M) : Apt w0 w2 (L ++ M) := by
  have H' := H.step G.gr
  have get : ∀ (i : Nat) (a : Thing), (L ++ M)[i]? = some a → (i < L.length ∧ L[i]? = some a) ∨ (L.length ≤ i ∧ M[i - L.length]? = some a) := fun i a ha => by
    by_cases h : i < L.length
    · rw [List.getElem?_append_left h] at ha
      exact .inl ⟨h, ha⟩
    · rw [List.getElem?_append_right (by omega)] at ha
      exact .inr ⟨by omega, ha⟩
  refine ⟨H'.gr, fun i a ha => ?_, fun i j a b hij ha hb q hq hq' => ?_⟩
  · rcases get i a ha with ⟨_, h⟩ | ⟨_, h⟩
    · exact H'.ok i a h
    · have := G.ok _ a h
      exact ⟨fun q hq => Nat.le_trans H.gr.size (this.lo q hq), this.hi, this.kept⟩
  · rcases get i a ha with ⟨h1, h⟩ | ⟨h1, h⟩ <;> rcases get j b hb with ⟨h2, h'⟩ | ⟨h2, h'⟩
    · exact H.two i j a b hij h h' q hq hq'
    · have := (H.ok i a h).hi q hq
      have := (G.ok _ b h').lo q hq'
      omega
    · have := (H.ok j b h').hi q hq'
      have := (G.ok _ a h).lo q hq
      omega
    · exact G.two _ _ a b (by omega) h h' q hq hq'
theorem Apt.swap {w0 w : World} {a b : Thing} (H : Apt w0 w [a, b]) : Apt w0 w [b, a] :=
  H.pick (fun i => 1 - i) (fun i x hx => by
    match i, hx with
    | 0, hx => exact hx
    | 1, hx => exact hx
    | i + 2, hx => simp at hx) (fun i j hi hj e => by simp at hi hj; omega)
/-- A join: what holds at each way out. -/
theorem join_as {b : (F → World → Prop) → Prop} {n : F → World → Prop} (C : F → World → Prop) (hb : ∀ K, (∀ f w, C f w → K f w) → b K) (hn : ∀ f w, C f w → n f w) : Join b n := hb n hn
/-! ### Things -/
theorem Row.same {w w' : World} {B e sz n c : Nat} {X : Option Addr} {cells : List Value} (h : Row w B e sz X n c cells) (hs : ∀ q, blk X = some q → w'.heap[q]? = w.heap[q]?) : Row w' B e sz X n c cells := by
  obtain ⟨hl, h2⟩ := h
  refine ⟨hl, ?_⟩
  rcases h2 with h2 | ⟨q, cap, cur, e1, e2, e3, e4⟩
  · exact .inl h2
  · refine .inr ⟨q, cap, cur, e1, e2, ?_, e4⟩
    obtain ⟨rfl, _, _⟩ : X = some ⟨q, 0, none⟩ ∧ n = n ∧ c = cap := by simpa using e1
    rw [hs q rfl]
    exact e3
theorem Row.up {w : World} {B B' e sz n c : Nat} {X : Option Addr} {cells : List Value} (h : Row w B e sz X n c cells) (hb : ∀ q, blk X = some q → B' ≤ q) : Row w B' e sz X n c cells := by
  obtain ⟨hl, h2⟩ := h
  refine ⟨hl, ?_⟩
  rcases h2 with h2 | ⟨q, cap, cur, e1, e2, e3⟩
  · exact .inl h2
  · obtain ⟨rfl, _, _⟩ : X = some ⟨q, 0, none⟩ ∧ n = n ∧ c = cap := by simpa using e1
    exact .inr ⟨q, cap, cur, e1, hb q rfl, e3⟩
theorem OwnR.same {e1 e2 : Nat} {w w' : World} {B : Nat} {X : Option Addr} {c : Nat} {rs : List RuleL} {ps : Nat → Option Addr × Nat} (h : OwnR e1 e2 w B X c rs ps) (hs : ∀ q, Foot X ps rs.length q → w'.heap[q]? = w.heap[q]?) : OwnR e1 e2 w' B X c rs ps := by
  obtain ⟨⟨cells, hr, hc⟩, ho, ht⟩ := h
  exact ⟨⟨cells, hr.same fun q hq => hs q (.inl hq), hc⟩, fun j hj => Row.same (ho j hj) fun q hq => hs q (.inr ⟨j, hj, hq⟩), ht⟩
theorem OwnR.up {e1 e2 : Nat} {w : World} {B B' : Nat} {X : Option Addr} {c : Nat} {rs : List RuleL} {ps : Nat → Option Addr × Nat} (h : OwnR e1 e2 w B X c rs ps) (hs : ∀ q, Foot X ps rs.length q → B' ≤ q) : OwnR e1 e2 w B' X c rs ps := by
  obtain ⟨⟨cells, hr, hc⟩, ho, ht⟩ := h
  exact ⟨⟨cells, hr.up fun q hq => hs q (.inl hq), hc⟩, fun j hj => Row.up (ho j hj) fun q hq => hs q (.inr ⟨j, hj, hq⟩), ht⟩
def bx (b : Nat) (cs : List Value) (t : TypeId) : Thing := ⟨fun w => Box w b cs t, fun q => q = b⟩
def rwi (e sz : Nat) (X : Option Addr) (n c : Nat) (cells : List Value) : Thing := ⟨fun w => Row w 0 e sz X n c cells, fun q => blk X = some q⟩
def rls (e1 e2 : Nat) (X : Option Addr) (c : Nat) (rs : List RuleL) (ps : Nat → Option Addr × Nat) : Thing := ⟨fun w => OwnR e1 e2 w 0 X c rs ps, Foot X ps rs.length⟩
theorem bx_kept {w : World} {b t : Nat} {cs : List Value} (h : Box w b cs t) : ∀ w', (∀ q, (bx b cs t).ft q → w'.heap[q]? = w.heap[q]?) → (bx b cs t).P w' := fun w' hq => (hq b rfl).trans h
theorem rwi_kept {w : World} {B e sz n c : Nat} {X : Option Addr} {cells : List Value} (h : Row w B e sz X n c cells) : ∀ w', (∀ q, (rwi e sz X n c cells).ft q → w'.heap[q]? = w.heap[q]?) → (rwi e sz X n c cells).P w' := fun w' hq => (Row.mono h (Nat.zero_le B)).same hq
section
variable {w0 w w' : World} {L : List Thing}
theorem Apt.box (H : Apt w0 w L) (i : Nat) {b t : Nat} {cs : List Value} (hi : L[i]? = some (bx b cs t)) : Box w b cs t := H.get i hi
theorem Apt.row (H : Apt w0 w L) (i : Nat) {e sz n c : Nat} {X : Option Addr} {cells : List Value} (hi : L[i]? = some (rwi e sz X n c cells)) : Row w w0.heap.size e sz X n c cells := Row.up (H.get i hi) (H.ok i _ hi).lo
theorem Apt.rules (H : Apt w0 w L) (i : Nat) {e1 e2 c : Nat} {X : Option Addr} {rs : List RuleL} {ps : Nat → Option Addr × Nat} (hi : L[i]? = some (rls e1 e2 X c rs ps)) : OwnR e1 e2 w w0.heap.size X c rs ps := OwnR.up (H.get i hi) (H.ok i _ hi).lo
theorem Apt.addBox (H : Apt w0 w L) (g : Gr w w') {b t : Nat} {cs : List Value} (hb : w.heap.size ≤ b) (h : Box w' b cs t) : Apt w0 w' (L ++ [bx b cs t]) := H.add g _ (fun q hq => (show q = b from hq) ▸ hb) (fun q hq => (show q = b from hq) ▸ h.lt) (bx_kept h)
theorem Apt.addRow (H : Apt w0 w L) (g : Gr w w') {e sz n c : Nat} {X : Option Addr} {cells : List Value} (h : Row w' w.heap.size e sz X n c cells) : Apt w0 w' (L ++ [rwi e sz X n c cells]) := H.add g _ (fun q hq => (Row.ge h hq).1) (fun q hq => (Row.ge h hq).2) (rwi_kept h)
theorem Apt.addNil (H : Apt w0 w L) (e sz : Nat) : Apt w0 w (L ++ [rwi e sz none 0 0 []]) := H.addRow (Gr.refl w) (Row.nil _ _ _ _)
end
/-! ### Loops -/
/-- A loop over a state of the prover's own that counts down. -/
theorem loop_ghost {σ : Type} {W : List Nat} {body : (Exit → F → World → Prop) → F → World → Prop} {Q : Exit → F → World → Prop} {f0 : F} {w0 : World} (J : σ → F → World → Prop) (m : σ → Nat) (s0 : σ) (h0 : J s0 f0 w0)
    (h : ∀ s f w (N : F → World → Prop), Agree W f0 f → J s f w → (∀ s' f' w', J s' f' w' → m s' < m s → N f' w') → body (seqQ N Q) f w) : LoopF W body Q f0 w0 := by
  classical
  have hm : ∃ μ : F → World → Nat, (∀ f w s, J s f w → μ f w ≤ m s) ∧ ∀ f w, (∃ s, J s f w) → ∃ s, J s f w ∧ m s = μ f w := by
    have key : ∀ f w, ∃ n, (∀ s, J s f w → n ≤ m s) ∧ ((∃ s, J s f w) → ∃ s, J s f w ∧ m s = n) := fun f w => by
      by_cases hx : ∃ s, J s f w
      · have : ∃ n, ∃ s, J s f w ∧ m s = n := by
          obtain ⟨s, hs⟩ := hx
          exact ⟨_, s, hs, rfl⟩
        have ind : ∀ n, (∃ s, J s f w ∧ m s = n) → ∃ n, (∀ s, J s f w → n ≤ m s) ∧ ∃ s, J s f w ∧ m s = n := by
          intro n
          induction n using Nat.strongRecOn with
          | _ n ih =>
            intro hn
            by_cases hlt : ∃ s, J s f w ∧ m s < n
            · obtain ⟨s, hs, hl⟩ := hlt
              exact ih _ hl ⟨s, hs, rfl⟩
            · exact ⟨n, fun s hs => Classical.byContradiction fun hc => hlt ⟨s, hs, by omega⟩, hn⟩
        obtain ⟨n, hn⟩ := this
        obtain ⟨n', h1, h2⟩ := ind n hn
        exact ⟨n', h1, fun _ => h2⟩
      · exact ⟨0, fun s hs => absurd ⟨s, hs⟩ hx, fun e => absurd e hx⟩
    exact ⟨fun f w => Classical.choose (key f w), fun f w s hs => (Classical.choose_spec (key f w)).1 s hs, fun f w hx => (Classical.choose_spec (key f w)).2 hx⟩
  obtain ⟨μ, hμ1, hμ2⟩ := hm
  refine ⟨fun f w => ∃ s, J s f w, μ, ⟨s0, h0⟩, fun f w hag hx => ?_⟩
  obtain ⟨s, hs, hms⟩ := hμ2 f w hx
  refine h s f w _ hag hs fun s' f' w' hs' hlt => ⟨⟨s', hs'⟩, ?_⟩
  have := hμ1 f' w' s' hs'
  omega
/-- A loop that counts up to n. -/
theorem loop_to {W : List Nat} {body : (Exit → F → World → Prop) → F → World → Prop} {Q : Exit → F → World → Prop} {f0 : F} {w0 : World} (n a : Nat) (J : Nat → F → World → Prop) (h0 : J a f0 w0)
    (h : ∀ i f w (N : F → World → Prop), Agree W f0 f → J i f w → (∀ f' w', i < n → J (i + 1) f' w' → N f' w') → body (seqQ N Q) f w) : LoopF W body Q f0 w0 :=
  loop_ghost J (fun i => n - i) a h0 fun i f w N hag hJ hN => by
    by_cases hlt : i < n
    · exact h i f w N hag hJ fun f' w' _ hJ' => hN (i + 1) f' w' hJ' (by omega)
    · exact h i f w N hag hJ fun f' w' hlt' _ => absurd hlt' hlt
theorem rng6 : Array.range 6 = #[0, 1, 2, 3, 4, 5] := by decide
theorem rdi {A B : Prop} (e : A = B) (h : B) : A := e ▸ h
theorem all_one {vs : List Value} (h : vs.all Value.oneCell' = true) : ∀ v ∈ vs, v.oneCell' = true := fun v hv => List.all_eq_true.1 h v hv
section
variable {P : Program} {k : Value → World → Prop} {w0 w : World} {L : List Thing}
theorem boxH (H : Apt w0 w L) {t : TypeId} {v : Value} (h : ∀ b w', Apt w0 w' (L ++ [bx b v.cells.toList t]) → k (.pointer (some ⟨b, 0, none⟩)) w') : Do P (sBox t v) k w :=
  do_box fun b w' g hb hB => h b w' (H.addBox g hb hB)
theorem allocH (H : Apt w0 w L) {t sz by' : Nat} {z : Value} (I : Inf P t z sz by') (h : ∀ b w', Apt w0 w' (L ++ [bx b z.cells.toList t]) → k (.pointer (some ⟨b, 0, none⟩)) w') : Do P (sAlloc t) k w :=
  do_alloc_of I fun b w' g hb hB => h b w' (H.addBox g hb hB)
theorem storeH (H : Apt w0 w L) (i : Nat) {b e : Nat} {cs : List Value} (hi : L[i]? = some (bx b cs e)) {t n off : Nat} {v : Value} (hs : szOf P t n) (hv : v.cells.size = n) (h1 : v.cells.toList.all Value.oneCell' = true) (hl : Nat.ble (off + n) cs.length = true)
    (h : ∀ w', Apt w0 w' (L.set i (bx b (cs.take off ++ v.cells.toList ++ cs.drop (off + n)) e)) → k undef w') : Do P (sStore t (.pointer (some ⟨b, off, none⟩)) v) k w :=
  do_store hs hv (all_one h1) (H.box i hi) (Nat.le_of_ble_eq_true hl) fun w' g hsz hb => h w' (H.set hi (gx_of g fun q hq => by cases hq; rfl) (fun q hq => .inl hq) (fun q hq => (show q = b from hq) ▸ hb.lt) (bx_kept hb))
theorem appendH (H : Apt w0 w L) (i : Nat) {t e u sz by' n c m d : Nat} {X Y : Option Addr} {cells news : List Value} {z : Value} (hi : L[i]? = some (rwi e sz X n c cells)) (ht : P.underlying t = some (.slice e)) (I : Inf P e z sz by') (hzs : z.cells.size = sz) (hsz : 0 < sz)
    {cs : List Bool} (hS : Src w Y news) (hl : news.length = m * sz) (h1 : ∀ v ∈ news, v.oneCell' = true) (hm : (n + m) * by' ≤ 140737488355328) (hmax : n + m ≤ 9223372036854775807)
    (h : ∀ X' c' w', Apt w0 w' (L.set i (rwi e sz X' (n + m) c' (cells ++ news))) → k (.slice X' (n + m) c') w') : Do P (sBuiltin .append #[t, t] u cs [.slice X n c, .slice Y m d]) k w :=
  do_append2 ht I hzs hsz (H.row i hi) hS hl h1 hm hmax H.gr.size fun X' c' w' hr hg hmv => h X' c' w' (H.set hi (gx_of hg fun q hq => hq) (fun q hq => by
    rcases hmv with e | e
    · exact .inl (show blk X = some q from e ▸ (show blk X' = some q from hq))
    · exact .inr (e q hq)) (fun q hq => (Row.ge hr hq).2) (rwi_kept hr))
theorem makeH (H : Apt w0 w L) {t e sz by' : Nat} {z : Value} (ht : P.underlying t = some (.slice e)) (I : Inf P e z sz by') {kl kc : IntKind} {n : Nat} (hm : by' * n ≤ 281474976710656) (hmax : n ≤ 9223372036854775807)
    (h : ∀ b w', Apt w0 w' (L ++ [rwi e sz (some ⟨b, 0, none⟩) n n (madeCells z.cells (n * sz)).toList]) → k (.slice (some ⟨b, 0, none⟩) n n) w') : Do P (sMakeSlice t (.int kl n) (.int kc n)) k w :=
  do_make_of ht I hm hmax fun b w' hb hb' g hr => h b w' (H.addRow g (hr _ (Nat.le_refl _)))
theorem buildH (H : Apt w0 w L) {t e sz by' n : Nat} {z : Value} (ht : P.underlying t = some (.slice e)) (I : Inf P e z sz by') {ps : List (Nat × Value)} (cells : List Value) (hn : n * sz ≤ 16777216) (hn' : n ≤ 9223372036854775807)
    (hf : Instr.fill (fun j => some (j * sz, sz)) (madeCells (if n * sz = 0 then #[] else z.cells) (n * sz)) ps = some cells.toArray) (hl : cells.length = n * sz)
    (h : ∀ b w', Apt w0 w' (L ++ [rwi e sz (some ⟨b, 0, none⟩) n n cells]) → k (.slice (some ⟨b, 0, none⟩) n n) w') : Do P (sBuildSlice t n ps) k w :=
  do_build_of ht I hn hn' hf hl fun b w' hb hb' g hB hr => h b w' (H.addRow g (hr _ (Nat.le_refl _)))
end
section
variable {P : Program} {k : Value → Prop}
theorem rdG {w : World} {h : Gr w w} {t off b e : Nat} {cs : List Value} {v : Value} (ht : one P t) (hb : Box w b cs e) (hc : cs[off]? = some v) : Rd P ⟨fun w' => Gr w w', w, h⟩ (sLoad t (.pointer (some ⟨b, off, none⟩))) k = k v :=
  rd_load1 ht fun w' hw => ((hb.gr hw).cell off).trans hc
end
end Go.Sh
namespace Go.Proofs.Ytegcjkhebecgbaa
open Go Go.Sh Go.RowKit
def ows (X : Option Addr) (c : Nat) (xs : List Int) : Thing := rwi 3 1 X xs.length c (ints xs)
section
variable {k : Value → World → Prop} {w0 w w' : World} {L : List Thing}
theorem _root_.Go.Sh.Apt.own (H : Apt w0 w L) (i : Nat) {c : Nat} {X : Option Addr} {xs : List Int} (hi : L[i]? = some (ows X c xs)) : Own 3 w w0.heap.size X c xs := H.row i hi
theorem _root_.Go.Sh.Apt.ints (H : Apt w0 w L) (i : Nat) {c : Nat} {X : Option Addr} {xs : List Int} (hi : L[i]? = some (ows X c xs)) : Ints w X xs := Own.ints (H.own i hi)
theorem _root_.Go.Sh.Apt.addOwn (H : Apt w0 w L) (g : Gr w w') {c : Nat} {X : Option Addr} {xs : List Int} (h : Own 3 w' w.heap.size X c xs) : Apt w0 w' (L ++ [ows X c xs]) := H.addRow g h
/-- append of numbers to numbers. -/
theorem apH (H : Apt w0 w L) (i : Nat) {u n c m d : Nat} {X Y : Option Addr} {xs ys : List Int} (hi : L[i]? = some (ows X c xs)) {cs : List Bool} (hY : Ints w Y ys) (hn : n = xs.length) (hm : m = ys.length) (hb : (xs.length + ys.length) * 8 ≤ 140737488355328)
    (h : ∀ X' c' w', Apt w0 w' (L.set i (ows X' c' (xs ++ ys))) → k (.slice X' (xs ++ ys).length c') w') : Do Try.prog (sBuiltin .append #[27, 27] u cs [.slice X n c, .slice Y m d]) k w := by
  subst hn
  subst hm
  refine appendH H i hi u27 inf3 rfl (by decide) hY.src (by rw [ints_length, Nat.mul_one]) (ints_one ys) hb (by omega) fun X' c' w' H' => ?_
  rw [← ints_append, ← List.length_append] at H'
  rw [← List.length_append]
  exact h X' c' w' H'
/-- append of one number. -/
theorem pushH {k : Value → Value → World → Prop} (H : Apt w0 w L) (i : Nat) {u n c : Nat} {X : Option Addr} {xs : List Int} {x : Int} (hi : L[i]? = some (ows X c xs)) {cs : List Bool} (hn : n = xs.length) (hb : xs.length ≤ 1000000000)
    (h : ∀ t X' c' w', Apt w0 w' (L.set i (ows X' c' (xs ++ [x]))) → k t (.slice X' (xs ++ [x]).length c') w') : Do Try.prog (sBuildSlice 27 1 [(0, .int .i64 x)]) (fun t w1 => Do Try.prog (sBuiltin .append #[27, 27] u cs [.slice X n c, t]) (k t) w1) w := by
  refine bs27 [.int .i64 x] (by decide) (by simp [Instr.fill, madeCells, Value.cells, rng1]) rfl fun b w1 hb1 hb2 g hB hr => ?_
  refine apH (H.step g) i hi (ys := [x]) (Own.ints (show Own 3 w1 w.heap.size (some ⟨b, 0, none⟩) 1 [x] from hr _ (Nat.le_refl _))) hn rfl (by simp; omega) fun X' c' w' H' => h _ X' c' w' H'
end
end Go.Proofs.Ytegcjkhebecgbaa

/- Contracts of what PumpWord reaches. -/
set_option linter.unusedVariables false
set_option linter.unusedSimpArgs false
set_option maxRecDepth 100000
namespace Go.Sh
open Go
structure Cuts (cs : List Int) (n : Nat) : Prop where
  len : cs.length = 4
  lo : 0 ≤ cs.getD 0 0
  h01 : cs.getD 0 0 ≤ cs.getD 1 0
  h12 : cs.getD 1 0 ≤ cs.getD 2 0
  h23 : cs.getD 2 0 ≤ cs.getD 3 0
  hi : cs.getD 3 0 ≤ n
instance (cs : List Int) (n : Nat) : Decidable (Cuts cs n) :=
  decidable_of_iff (cs.length = 4 ∧ 0 ≤ cs.getD 0 0 ∧ cs.getD 0 0 ≤ cs.getD 1 0 ∧ cs.getD 1 0 ≤ cs.getD 2 0 ∧ cs.getD 2 0 ≤ cs.getD 3 0 ∧ cs.getD 3 0 ≤ n)
    ⟨fun ⟨a, b, c, d, e, f⟩ => ⟨a, b, c, d, e, f⟩, fun h => ⟨h.len, h.lo, h.h01, h.h12, h.h23, h.hi⟩⟩
end Go.Sh
namespace Go.Proofs.Ytegcjkhebecgbaa
open Go Go.Sh Go.RowKit

theorem l1Own_c {w : World} {X : Option Addr} {c n : Nat} {xs : List Int} (hx : Ints w X xs) (hn : n = xs.length) (hb : xs.length * 8 ≤ 140737488355328) {k : Value → World → Prop}
    (hk : ∀ X' c' w', Gr w w' → Own 3 w' w.heap.size X' c' xs → k (.slice X' xs.length c') w') : CallK Try.prog 158 [.slice X n c] k w := by
  subst hn
  refine enter158 ?_
  unfold S158
  refine bs27 [] (by decide) (by simp [Instr.fill, madeCells]) rfl fun b w1 hb1 hb2 hg hbox hrow => ?_
  refine ap27 (hrow _ (Nat.le_refl _)) (hx.gr hg).src (by rw [ints_length, Nat.mul_one]) (ints_one xs) (by omega) hg.size fun X' c' w2 hr hg2 => ?_
  rw [Nat.zero_add] at hr ⊢
  exact hk X' c' w2 (gr_mod hg hg2 fun q hq => by simp [blk] at hq; omega) hr

/-- append to a row of ints. -/
theorem apI {u : TypeId} {cs : List Bool} {w : World} {k : Value → World → Prop} {B c d n m : Nat} {X Y : Option Addr} {xs ys : List Int} (hO : Own 3 w B X c xs) (hY : Ints w Y ys) (hn : n = xs.length) (hm : m = ys.length) (hb : (xs.length + ys.length) * 8 ≤ 140737488355328) (hB : B ≤ w.heap.size)
    (h : ∀ X' c' w', Own 3 w' B X' c' (xs ++ ys) → w.grownBy w' (blk X) → k (.slice X' (xs ++ ys).length c') w') : Do Try.prog (sBuiltin .append #[27, 27] u cs [.slice X n c, .slice Y m d]) k w := by
  subst hn
  subst hm
  refine ap27 hO hY.src (by rw [ints_length, Nat.mul_one]) (ints_one ys) hb hB fun X' c' w' hr hg => ?_
  rw [← ints_append, ← List.length_append] at hr
  rw [← List.length_append]
  exact h X' c' w' hr hg

end Go.Proofs.Ytegcjkhebecgbaa

/- Contracts of what PumpWord reaches, second part. -/
set_option linter.unusedVariables false
set_option linter.unusedSimpArgs false
set_option maxRecDepth 100000
namespace Go.Sh
open Go
end Go.Sh
namespace Go.Proofs.Ytegcjkhebecgbaa
open Go Go.Sh Go.RowKit

/-- A function value that tells of a number, in whatever world has grown. -/
def Pred (t : Nat) (fv : Value) (p : Int → Bool) (w : World) : Prop := ∀ w1, Gr w w1 → ∀ (x : Int) (k : Value → World → Prop), (∀ w2, Gr w1 w2 → k (.bool (p x)) w2) → Do Try.prog (sCallV fv [.int .i64 x] t) k w1
theorem indexFunc_c {w : World} {X : Option Addr} {c : Nat} {xs : List Int} {fv : Value} {p : Int → Bool} (hx : Ints w X xs) (hp : Pred 4 fv p w) {k : Value → World → Prop}
    (hk : ∀ (r : Int) w', Gr w w' → decide (0 ≤ r) = xs.any p → (0 ≤ r → r < xs.length ∧ p (xs.getD r.toNat 0) = true ∧ ∀ j : Nat, j < r → p (xs.getD j 0) = false) → k (.int .i64 r) w') :
    CallK Try.prog 177 [.slice X xs.length c, fv] k w := by
  refine enter177 ?_
  unfold S177
  simp only [go_sem, Nat.reduceEqDiff]
  refine ⟨fun f w' => ∃ i : Nat, i ≤ xs.length ∧ f 8 = .int .i64 i ∧ Gr w w' ∧ ∀ j, j < i → p (xs.getD j 0) = false, fun f _ => xs.length - (intOf (f 8)).toNat, ⟨0, Nat.zero_le _, rfl, Gr.refl w, fun j hj => absurd hj (Nat.not_lt_zero j)⟩, ?_⟩
  rintro f w1 hag ⟨i, hi, h8, hg, hpre⟩
  have f0 : f 0 = .slice X xs.length c := hag 0 (by decide)
  have f1 : f 1 = fv := hag 1 (by decide)
  have f7 : f 7 = .int .i64 xs.length := hag 7 (by decide)
  simp only [f0, f1, f7, h8, go_sem, Nat.reduceEqDiff]
  by_cases hlt : i < xs.length
  · have hlt' : (i : Int) < xs.length := by omega
    have := hx.le
    simp only [hlt', decide_true, go_sem, Nat.reduceEqDiff]
    rw [ixn27 hx.ptr hlt, ld3 ((hx.gr hg).cell i hlt)]
    refine hp w1 hg _ _ fun w2 g2 => ?_
    have g2' := gr_trans hg g2
    cases hb : p (xs.getD i 0)
    · simp only [go_sem, Nat.reduceEqDiff]
      rw [i64_of (by omega) (by omega)]
      refine ⟨⟨i + 1, hlt, rfl, g2', fun j hj => ?_⟩, ?_⟩
      · rcases Nat.lt_succ_iff_lt_or_eq.1 hj with h | rfl
        · exact hpre j h
        · exact hb
      · simp only [intOf]
        omega
    · simp only [go_sem, Nat.reduceEqDiff]
      refine hk i w2 g2' ?_ fun _ => ⟨hlt', hb, fun j hj => hpre j (by omega)⟩
      rw [decide_eq_true (by omega), eq_comm, List.any_eq_true]
      exact ⟨_, getD_mem hlt, hb⟩
  · simp only [show ¬ (i : Int) < xs.length from by omega, decide_false, go_sem, Nat.reduceEqDiff]
    refine hk (-1) w1 hg ?_ fun h => absurd h (by decide)
    rw [decide_eq_false (by decide), eq_comm, List.any_eq_false]
    intro x hx'
    obtain ⟨j, hj, rfl⟩ := List.getElem_of_mem hx'
    have := hpre j (by omega)
    rw [List.getD_eq_getElem?_getD, List.getElem?_eq_getElem hj] at this
    simpa using this
theorem containsFunc_c {w : World} {X : Option Addr} {c : Nat} {xs : List Int} {fv : Value} {p : Int → Bool} (hx : Ints w X xs) (hp : Pred 4 fv p w) {k : Value → World → Prop}
    (hk : ∀ w', Gr w w' → k (.bool (xs.any p)) w') : CallK Try.prog 250 [.slice X xs.length c, fv] k w := by
  refine enter250 ?_
  unfold S250
  refine indexFunc_c hx hp fun r w' g h _ => ?_
  simp only [go_sem, Nat.reduceEqDiff]
  rw [h]
  exact hk w' g
end Go.Proofs.Ytegcjkhebecgbaa

/- Contracts: what a good grammar is, by the reference and by the program. -/
set_option linter.unusedVariables false
set_option linter.unusedSimpArgs false
set_option maxRecDepth 100000
namespace Go.Sh
open Go
def symB (nons toks s : Int) : Bool := inB s (-toks) (nons - 1)
def goodR (nons toks : Int) (rs : List RuleL) (i : Nat) : Bool :=
  inB (rul rs i).1 0 (nons - 1) && decide ((rul rs i).2.length ≤ 4) && (rul rs i).2.all (symB nons toks) && !(rs.take i).any fun q => decide (rul rs i = q)
def goodG (g : Gram) : Bool := inB g.nons 1 6 && inB g.toks 1 4 && decide (g.rules.length ≤ 16) && (List.range g.rules.length).all (goodR g.nons g.toks g.rules)
theorem range_all {n : Nat} {p : Nat → Bool} (h : ∀ j, j < n → p j = true) : (List.range n).all p = true := by
  rw [List.all_eq_true]
  intro x hx
  exact h x (List.mem_range.1 hx)
theorem range_not {n i : Nat} {p : Nat → Bool} (hi : i < n) (h : p i = false) : (List.range n).all p = false := by
  rw [List.all_eq_false]
  exact ⟨i, List.mem_range.2 hi, by rw [h]; decide⟩
theorem any_of_rul {rs : List RuleL} {p : RuleL → Bool} {i : Nat} (hi : i < rs.length) (h : p (rul rs i) = true) : rs.any p = true := by
  rw [List.any_eq_true]
  exact ⟨_, by rw [rul_eq hi]; exact List.getElem_mem hi, h⟩
theorem any_none_rul {rs : List RuleL} {p : RuleL → Bool} (h : ∀ j, j < rs.length → p (rul rs j) = false) : rs.any p = false := by
  rw [List.any_eq_false]
  intro x hx
  obtain ⟨j, hj, rfl⟩ := List.getElem_of_mem hx
  have := h j hj
  rw [rul_eq hj] at this
  simp [this]
theorem sub_zero (Y : Option Addr) (c sz : Nat) : sub Y 0 c sz = Y := by
  unfold sub
  split
  · rfl
  · cases Y <;> simp [add_zero']
theorem RulesF.take {F : Nat → Prop} {w : World} {X : Option Addr} {rs : List RuleL} (h : RulesF F w X rs) (i : Nat) : RulesF F w X (rs.take i) := by
  have hl : (rs.take i).length ≤ rs.length := by simp; omega
  refine ⟨by have := h.le; omega, fun hp => h.ptr (by omega), fun hp => h.foot (by omega), fun j hj => ?_⟩
  have hji : j < i := by simp at hj; omega
  rw [rul_take hji]
  exact h.row j (by omega)
end Go.Sh
namespace Go.Proofs.Ytegcjkhebecgbaa
open Go Go.Sh Go.RowKit

theorem l1Symbol_c {F : Nat → Prop} {w : World} {v : Value} {gm : Gram} {s : Int} (hv : GramV F w v gm) (hn : inB gm.nons 1 6 = true) (ht : inB gm.toks 1 4 = true) {k : Value → World → Prop} (hk : ∀ w', Gr w w' → k (.bool (symB gm.nons gm.toks s)) w') :
    CallK Try.prog 238 [v, .int .i64 s] k w := by
  obtain ⟨Y, c, rfl, hc, hy⟩ := hv
  have hn' : 1 ≤ gm.nons ∧ gm.nons ≤ 6 := by simpa [inB] using hn
  have ht' : 1 ≤ gm.toks ∧ gm.toks ≤ 4 := by simpa [inB] using ht
  refine enter238 ?_
  unfold S238
  refine do_box fun b w1 g1 hb1 hB => ?_
  simp only [go_sem, Nat.reduceEqDiff]
  rw [ldB3 hB rfl]
  simp only [go_sem, Nat.reduceEqDiff]
  rw [ldB3 hB rfl]
  simp only [go_sem, Nat.reduceEqDiff]
  rw [i64_of (by omega) (by omega), i64_of (by omega) (by omega)]
  exact l1In_c (hk _ g1)
theorem l1Same_c {w : World} {X Y : Option Addr} {c d : Nat} {xs ys : List Int} (hx : Ints w X xs) (hy : Ints w Y ys) {k : Value → World → Prop} (hk : ∀ w', Gr w w' → k (.bool (decide (xs = ys))) w') :
    CallK Try.prog 300 [.slice X xs.length c, .slice Y ys.length d] k w := by
  refine enter300 ?_
  unfold S300
  simp only [go_sem, Nat.reduceEqDiff]
  by_cases hl : xs.length = ys.length
  rotate_left
  · simp only [Int.ofNat_inj, hl, decide_false, Bool.not_false, go_sem, Nat.reduceEqDiff]
    have := hk _ (Gr.refl w)
    rwa [decide_eq_false (fun e => hl (by rw [e]))] at this
  simp only [Int.ofNat_inj, hl, decide_true, Bool.not_true, go_sem, Nat.reduceEqDiff]
  rw [← hl]
  refine ⟨fun f w' => ∃ i : Nat, i ≤ xs.length ∧ f 13 = .int .i64 i ∧ Gr w w' ∧ xs.take i = ys.take i, fun f _ => xs.length - (intOf (f 13)).toNat, ⟨0, Nat.zero_le _, rfl, Gr.refl w, rfl⟩, ?_⟩
  rintro f w1 hag ⟨i, hi, h13, hg, hpre⟩
  have h0 : f 0 = .slice X xs.length c := hag 0 (by decide)
  have h1 : f 1 = .slice Y xs.length d := hag 1 (by decide)
  have h12 : f 12 = .int .i64 xs.length := hag 12 (by decide)
  simp only [h0, h1, h12, h13, go_sem, Nat.reduceEqDiff]
  by_cases hlt : i < xs.length
  · have hlt' : (i : Int) < xs.length := by omega
    have := hx.le
    simp only [hlt', decide_true, go_sem, Nat.reduceEqDiff]
    rw [ixn27 hx.ptr hlt, ld3 ((hx.gr (gr_trans hg (gr_drew w1))).cell i hlt), ixn27 (hl ▸ hy.ptr) hlt, ld3 ((hy.gr (gr_trans hg (gr_drew w1))).cell i (by omega))]
    simp only [go_sem, Nat.reduceEqDiff]
    by_cases he : xs.getD i 0 = ys.getD i 0
    · simp only [he, decide_true, Bool.not_true, go_sem, Nat.reduceEqDiff]
      rw [i64_of (by omega) (by omega)]
      refine ⟨⟨i + 1, hlt, rfl, gr_trans hg (gr_drew w1), ?_⟩, ?_⟩
      · rw [take_snoc hlt, take_snoc (by omega), hpre, he]
      · simp only [intOf]
        omega
    · simp only [he, decide_false, Bool.not_false, go_sem, Nat.reduceEqDiff]
      have := hk _ (gr_trans hg (gr_drew w1))
      rwa [decide_eq_false (fun e => he (by rw [e]))] at this
  · simp only [show ¬ (i : Int) < xs.length from by omega, decide_false, go_sem, Nat.reduceEqDiff]
    have := hk _ hg
    rwa [decide_eq_true] at this
    rwa [List.take_of_length_le (by omega), List.take_of_length_le (by omega)] at hpre
theorem l1SameRule_c {F E : Nat → Prop} {w : World} {v u : Value} {r q : RuleL} (hv : RuleV F w v r) (hu : RuleV E w u q) {k : Value → World → Prop} (hk : ∀ w', Gr w w' → k (.bool (decide (r = q))) w') :
    CallK Try.prog 239 [v, u] k w := by
  obtain ⟨Y, c, rfl, hc, hy⟩ := hv
  obtain ⟨Z, d, rfl, hd, hz⟩ := hu
  refine enter239 ?_
  unfold S239
  refine do_box fun b w1 g1 hb1 hb => ?_
  refine do_box fun b' w2 g2 hb2 hb' => ?_
  have hb := hb.gr g2
  have g := gr_trans g1 g2
  simp only [go_sem, Nat.reduceEqDiff]
  rw [ldB3 hb rfl, ldB3 hb' rfl]
  simp only [go_sem, Nat.reduceEqDiff]
  by_cases h : r.1 = q.1
  · simp only [h, decide_true, go_sem, Nat.reduceEqDiff]
    rw [ldB27 hb rfl]
    rw [ldB27 hb' rfl]
    refine l1Same_c (hy.is.gr g) (hz.is.gr g) fun w3 g3 => ?_
    have := hk w3 (gr_trans g g3)
    by_cases h2 : r.2 = q.2
    · simp only [h2, decide_true, go_sem, Nat.reduceEqDiff]
      rwa [decide_eq_true (Prod.ext h h2)] at this
    · simp only [h2, decide_false, go_sem, Nat.reduceEqDiff]
      rwa [decide_eq_false (fun e => h2 (by rw [e]))] at this
  · simp only [h, decide_false, go_sem, Nat.reduceEqDiff]
    have := hk w2 g
    rwa [decide_eq_false (fun e => h (by rw [e]))] at this
theorem goodGrammar_c {F : Nat → Prop} {w : World} {v : Value} {gm : Gram} (hv : GramV F w v gm) {k : Value → World → Prop} (hk : ∀ w', Gr w w' → k (.bool (goodG gm)) w') :
    CallK Try.prog 127 [v] k w := by
  have hv0 := hv
  obtain ⟨Y, c, rfl, hc, hy⟩ := hv
  refine enter127 ?_
  unfold S127
  refine do_box fun b w1 g1 hb1 hB => ?_
  simp only [go_sem, Nat.reduceEqDiff]
  rw [ldB3 hB rfl]
  refine l1In_c ?_
  cases hn : inB gm.nons 1 6
  · simp only [Bool.not_false, go_sem, Nat.reduceEqDiff]
    have := hk _ g1
    rwa [show goodG gm = false from by simp [goodG, hn]] at this
  simp only [Bool.not_true, go_sem, Nat.reduceEqDiff]
  rw [ldB3 hB rfl]
  refine l1In_c ?_
  cases ht : inB gm.toks 1 4
  · simp only [Bool.not_false, go_sem, Nat.reduceEqDiff]
    have := hk _ g1
    rwa [show goodG gm = false from by simp [goodG, ht]] at this
  simp only [Bool.not_true, go_sem, Nat.reduceEqDiff]
  rw [ldB24 hB rfl]
  simp only [go_sem, Nat.reduceEqDiff]
  by_cases hl : gm.rules.length ≤ 16
  rotate_left
  · simp only [show (16 : Int) < gm.rules.length from by omega, decide_true, go_sem, Nat.reduceEqDiff]
    have := hk _ g1
    rwa [show goodG gm = false from by simp [goodG, hl]] at this
  simp only [show ¬ (16 : Int) < gm.rules.length from by omega, decide_false, go_sem, Nat.reduceEqDiff]
  rw [ldB24 hB rfl]
  simp only [go_sem, Nat.reduceEqDiff]
  have hn' : 1 ≤ gm.nons ∧ gm.nons ≤ 6 := by simpa [inB] using hn
  have ht' : 1 ≤ gm.toks ∧ gm.toks ≤ 4 := by simpa [inB] using ht
  refine ⟨fun f w' => ∃ i : Nat, i ≤ gm.rules.length ∧ f 28 = .int .i64 i ∧ Gr w1 w' ∧ ∀ j, j < i → goodR gm.nons gm.toks gm.rules j = true, fun f _ => gm.rules.length - (intOf (f 28)).toNat, ⟨0, Nat.zero_le _, rfl, Gr.refl w1, fun j hj => absurd hj (Nat.not_lt_zero j)⟩, ?_⟩
  rintro f w2 hag ⟨i, hi, h28, g2, hpre⟩
  have f1 : f 1 = .pointer (some ⟨b, 0, none⟩) := hag 1 (by decide)
  have f26 : f 26 = .slice Y gm.rules.length c := hag 26 (by decide)
  have f27 : f 27 = .int .i64 gm.rules.length := hag 27 (by decide)
  simp only [f1, f26, f27, h28, go_sem, Nat.reduceEqDiff]
  by_cases hlt : i < gm.rules.length
  · have hlt' : (i : Int) < gm.rules.length := by omega
    simp only [hlt', decide_true, go_sem, Nat.reduceEqDiff]
    have g := gr_trans g1 g2
    rw [ixn24 hy.ptr hlt]
    refine ld_rule agg33 sz33 (hy.gr g) hlt fun v hv => ?_
    obtain ⟨Z, d, rfl, hd, hz⟩ := hv
    refine do_alloc_of inf33 fun b3 w3 g3 hb3 h3 => ?_
    have n3 := (hB.gr g2).ne hb3
    refine do_store sz33 rfl (by intro u hu; simp [Value.cells] at hu; rcases hu with rfl | rfl <;> rfl) h3 (by simp [Value.cells]) fun w4 g4 s4 h4 => ?_
    have hB2 := (hB.gr (gr_trans g2 g3)).put g4 n3
    have g' := gr_put (gr_trans g g3) g4 (Nat.le_trans g.size hb3)
    have k0 : goodR gm.nons gm.toks gm.rules i = false → ∀ w', Gr w w' → k (.bool false) w' := fun h w' gw => by
      have := hk w' gw
      rwa [show goodG gm = false from by simp only [goodG, range_not hlt h, Bool.and_false]] at this
    simp only [go_sem, Nat.reduceEqDiff]
    rw [ldB3 h4 rfl, ldB3 hB2 rfl]
    simp only [go_sem, Nat.reduceEqDiff]
    rw [i64_of (by omega) (by omega)]
    refine l1In_c ?_
    cases hr : inB (rul gm.rules i).1 0 (gm.nons - 1)
    · simp only [Bool.not_false, go_sem, Nat.reduceEqDiff]
      exact k0 (by simp [goodR, hr]) _ g'
    simp only [Bool.not_true, go_sem, Nat.reduceEqDiff]
    rw [ldB27 h4 rfl]
    simp only [go_sem, Nat.reduceEqDiff]
    by_cases h5 : (rul gm.rules i).2.length ≤ 4
    rotate_left
    · simp only [show (4 : Int) < (rul gm.rules i).2.length from by omega, decide_true, go_sem, Nat.reduceEqDiff]
      exact k0 (by simp [goodR, h5]) _ g'
    simp only [show ¬ (4 : Int) < (rul gm.rules i).2.length from by omega, decide_false, go_sem, Nat.reduceEqDiff]
    rw [ldB27 h4 rfl]
    simp only [go_sem, Nat.reduceEqDiff]
    refine ⟨fun f' w' => ∃ j : Nat, j ≤ (rul gm.rules i).2.length ∧ f' 49 = .int .i64 j ∧ Gr w4 w' ∧ ∀ l, l < j → symB gm.nons gm.toks ((rul gm.rules i).2.getD l 0) = true, fun f' _ => (rul gm.rules i).2.length - (intOf (f' 49)).toNat, ⟨0, Nat.zero_le _, rfl, Gr.refl w4, fun j hj => absurd hj (Nat.not_lt_zero j)⟩, ?_⟩
    rintro f' w5 hag' ⟨j, hj, h49, g5, hpre'⟩
    have e1 : f' 1 = .pointer (some ⟨b, 0, none⟩) := (hag' 1 (by decide)).trans f1
    have e3 : f' 3 = .int .i64 i := hag' 3 (by decide)
    have e4 : f' 4 = .pointer (some ⟨b3, 0, none⟩) := hag' 4 (by decide)
    have e28 : f' 28 = .int .i64 i := (hag' 28 (by decide)).trans h28
    have e47 : f' 47 = .slice Z (rul gm.rules i).2.length d := hag' 47 (by decide)
    have e48 : f' 48 = .int .i64 (rul gm.rules i).2.length := hag' 48 (by decide)
    have gw5 := gr_trans g' g5
    have gw45 : Gr w2 w5 := gr_trans (gr_put g3 g4 hb3) g5
    simp only [e1, e47, e48, h49, go_sem, Nat.reduceEqDiff]
    by_cases hlt2 : j < (rul gm.rules i).2.length
    · have hlt2' : (j : Int) < (rul gm.rules i).2.length := by omega
      simp only [hlt2', decide_true, go_sem, Nat.reduceEqDiff]
      rw [ixn27 hz.is.ptr hlt2, ld3 ((hz.is.gr gw45).cell j hlt2), ldB_agg agg26 sz26 rfl (hB2.gr g5)]
      refine l1Symbol_c (gm := gm) ⟨Y, c, rfl, hc, hy.gr gw5⟩ hn ht fun w6 g6 => ?_
      simp only [go_sem, Nat.reduceEqDiff]
      cases hs : symB gm.nons gm.toks ((rul gm.rules i).2.getD j 0)
      · simp only [Bool.not_false, go_sem, Nat.reduceEqDiff]
        exact k0 (by simp only [goodR, not_all_of hlt2 hs, Bool.and_false, Bool.false_and]) _ (gr_trans gw5 g6)
      · simp only [Bool.not_true, go_sem, Nat.reduceEqDiff]
        rw [i64_of (by omega) (by omega)]
        refine ⟨⟨j + 1, hlt2, rfl, gr_trans g5 g6, fun l hl => ?_⟩, ?_⟩
        · rcases Nat.lt_succ_iff_lt_or_eq.1 hl with h | rfl
          · exact hpre' l h
          · exact hs
        · simp only [intOf]
          omega
    simp only [show ¬ (j : Int) < (rul gm.rules i).2.length from by omega, decide_false, go_sem, Nat.reduceEqDiff]
    have hall : (rul gm.rules i).2.all (symB gm.nons gm.toks) = true := all_of fun l hl => hpre' l (by omega)
    simp only [e1, e3, go_sem, Nat.reduceEqDiff]
    rw [ldB24 (hB2.gr g5) rfl]
    rw [slh24 (by omega) (by omega), sub_zero]
    simp only [Int.toNat_natCast, go_sem, Nat.reduceEqDiff]
    have hti : (gm.rules.take i).length = i := by simp; omega
    have hyt : RulesF F w5 Y (gm.rules.take i) := (hy.gr gw5).take i
    refine ⟨fun f' w' => ∃ j : Nat, j ≤ i ∧ f' 63 = .int .i64 j ∧ Gr w5 w' ∧ ∀ l, l < j → decide (rul gm.rules i = rul gm.rules l) = false, fun f' _ => i - (intOf (f' 63)).toNat, ⟨0, Nat.zero_le _, rfl, Gr.refl w5, fun j hj => absurd hj (Nat.not_lt_zero j)⟩, ?_⟩
    rintro f2 w6 hag2 ⟨m, hm, h63, g6, hpre2⟩
    have d4 : f2 4 = .pointer (some ⟨b3, 0, none⟩) := (hag2 4 (by decide)).trans e4
    have d28 : f2 28 = .int .i64 i := (hag2 28 (by decide)).trans e28
    have d61 : f2 61 = .slice Y i c := hag2 61 (by decide)
    have d62 : f2 62 = .int .i64 i := hag2 62 (by decide)
    have gw6 := gr_trans gw5 g6
    simp only [d4, d28, d61, d62, h63, go_sem, Nat.reduceEqDiff]
    by_cases hlt3 : m < i
    · have hlt3' : (m : Int) < i := by omega
      simp only [hlt3', decide_true, go_sem, Nat.reduceEqDiff]
      rw [ixn24 (fun _ => hy.ptr (by omega)) hlt3]
      refine ld_rule agg33 sz33 (hy.gr gw6) (show m < gm.rules.length by omega) fun v hv => ?_
      obtain ⟨Z', d', rfl, hd', hz'⟩ := hv
      refine do_alloc_of inf33 fun b7 w7 g7 hb7 h7 => ?_
      have h46 := (h4.gr (gr_trans g5 g6))
      have n7 := h46.ne hb7
      have h47 := h46.gr g7
      refine do_store sz33 rfl (by intro u hu; simp [Value.cells] at hu; rcases hu with rfl | rfl <;> rfl) h7 (by simp [Value.cells]) fun w8 g8 s8 h8 => ?_
      have h48 := h47.put g8 n7
      have gw8 := gr_put (gr_trans gw6 g7) g8 (Nat.le_trans gw6.size hb7)
      have g58 := gr_put (gr_trans g6 g7) g8 (Nat.le_trans g6.size hb7)
      rw [ldB_agg agg33 sz33 rfl h48, ldB_agg agg33 sz33 rfl h8]
      refine l1SameRule_c (r := rul gm.rules i) (q := rul gm.rules m) (F := F) (E := F) ⟨Z, d, rfl, hd, hz.gr (gr_trans gw45 g58)⟩ ⟨Z', d', rfl, hd', hz'.gr (gr_put g7 g8 hb7)⟩ fun w9 g9 => ?_
      by_cases he : rul gm.rules i = rul gm.rules m
      · simp only [he, decide_true, go_sem, Nat.reduceEqDiff]
        refine k0 ?_ _ (gr_trans gw8 g9)
        have : (gm.rules.take i).any (fun q => decide (rul gm.rules i = q)) = true := any_of_rul (i := m) (by omega) (by rw [rul_take hlt3]; exact decide_eq_true he)
        simp only [goodR, this, Bool.not_true, Bool.and_false]
      · simp only [he, decide_false, go_sem, Nat.reduceEqDiff]
        rw [i64_of (by omega) (by omega)]
        refine ⟨⟨m + 1, hlt3, rfl, gr_trans g58 g9, fun l hl => ?_⟩, ?_⟩
        · rcases Nat.lt_succ_iff_lt_or_eq.1 hl with h | rfl
          · exact hpre2 l h
          · exact decide_eq_false he
        · simp only [intOf]
          omega
    · simp only [show ¬ (m : Int) < i from by omega, decide_false, go_sem, Nat.reduceEqDiff]
      rw [i64_of (by omega) (by omega)]
      refine ⟨⟨i + 1, hlt, rfl, gr_trans (gr_trans g2 gw45) g6, fun l hl => ?_⟩, ?_⟩
      · rcases Nat.lt_succ_iff_lt_or_eq.1 hl with h | rfl
        · exact hpre l h
        · have : (gm.rules.take l).any (fun q => decide (rul gm.rules l = q)) = false := any_none_rul fun m' hm' => by
            rw [rul_take (by omega)]
            exact hpre2 m' (by omega)
          simp only [goodR, hr, h5, hall, this, decide_true, Bool.not_false, Bool.and_self]
      · simp only [intOf]
        omega
  · simp only [show ¬ (i : Int) < gm.rules.length from by omega, decide_false, go_sem, Nat.reduceEqDiff]
    have := hk _ (gr_trans g1 g2)
    rwa [show goodG gm = true from by simp only [goodG, hn, ht, hl, decide_true, Bool.true_and]; exact range_all fun j hj => hpre j (by omega)] at this
end Go.Proofs.Ytegcjkhebecgbaa

/- Contracts: the program's own check of a grammar. -/
set_option linter.unusedVariables false
set_option linter.unusedSimpArgs false
set_option maxRecDepth 100000
namespace Go.Proofs.Ytegcjkhebecgbaa
open Go Go.Sh Go.RowKit

/-- A function value that tells of a rule, in whatever world has grown. -/
def PredR (t : Nat) (fv : Value) (p : RuleL → Bool) (w : World) : Prop := ∀ w1, Gr w w1 → ∀ (E : Nat → Prop) (v : Value) (r : RuleL), RuleV E w1 v r → ∀ (k : Value → World → Prop), (∀ w2, Gr w1 w2 → k (.bool (p r)) w2) → Do Try.prog (sCallV fv [v] t) k w1
theorem indexFuncR_c {F : Nat → Prop} {w : World} {X : Option Addr} {c : Nat} {rs : List RuleL} {fv : Value} {p : RuleL → Bool} (hx : RulesF F w X rs) (hp : PredR 4 fv p w) {k : Value → World → Prop}
    (hk : ∀ (r : Int) w', Gr w w' → decide (0 ≤ r) = rs.any p → k (.int .i64 r) w') :
    CallK Try.prog 305 [.slice X rs.length c, fv] k w := by
  refine enter305 ?_
  unfold S305
  simp only [go_sem, Nat.reduceEqDiff]
  refine ⟨fun f w' => ∃ i : Nat, i ≤ rs.length ∧ f 8 = .int .i64 i ∧ Gr w w' ∧ ∀ j, j < i → p (rul rs j) = false, fun f _ => rs.length - (intOf (f 8)).toNat, ⟨0, Nat.zero_le _, rfl, Gr.refl w, fun j hj => absurd hj (Nat.not_lt_zero j)⟩, ?_⟩
  rintro f w1 hag ⟨i, hi, h8, hg, hpre⟩
  have f0 : f 0 = .slice X rs.length c := hag 0 (by decide)
  have f1 : f 1 = fv := hag 1 (by decide)
  have f7 : f 7 = .int .i64 rs.length := hag 7 (by decide)
  simp only [f0, f1, f7, h8, go_sem, Nat.reduceEqDiff]
  by_cases hlt : i < rs.length
  · have hlt' : (i : Int) < rs.length := by omega
    have := hx.le
    simp only [hlt', decide_true, go_sem, Nat.reduceEqDiff]
    rw [ixn24 hx.ptr hlt]
    refine ld_rule agg33 sz33 (hx.gr hg) hlt fun v hv => ?_
    refine hp w1 hg _ _ _ hv _ fun w2 g2 => ?_
    have g2' := gr_trans hg g2
    cases hb : p (rul rs i)
    · simp only [go_sem, Nat.reduceEqDiff]
      rw [i64_of (by omega) (by omega)]
      refine ⟨⟨i + 1, hlt, rfl, g2', fun j hj => ?_⟩, ?_⟩
      · rcases Nat.lt_succ_iff_lt_or_eq.1 hj with h | rfl
        · exact hpre j h
        · exact hb
      · simp only [intOf]
        omega
    · simp only [go_sem, Nat.reduceEqDiff]
      refine hk i w2 g2' ?_
      rw [decide_eq_true (by omega), any_of_rul hlt hb]
  · simp only [show ¬ (i : Int) < rs.length from by omega, decide_false, go_sem, Nat.reduceEqDiff]
    refine hk (-1) w1 hg ?_
    rw [decide_eq_false (by decide), any_none_rul fun j hj => hpre j (by omega)]
theorem containsFuncR_c {F : Nat → Prop} {w : World} {X : Option Addr} {c : Nat} {rs : List RuleL} {fv : Value} {p : RuleL → Bool} (hx : RulesF F w X rs) (hp : PredR 4 fv p w) {k : Value → World → Prop}
    (hk : ∀ w', Gr w w' → k (.bool (rs.any p)) w') : CallK Try.prog 248 [.slice X rs.length c, fv] k w := by
  refine enter248 ?_
  unfold S248
  refine indexFuncR_c hx hp fun r w' g h => ?_
  simp only [go_sem, Nat.reduceEqDiff]
  rw [h]
  exact hk w' g
theorem isSymbol_c {w : World} {s n t : Int} (hn : inB n 1 6 = true) (ht : inB t 1 4 = true) {k : Value → World → Prop} (hk : k (.bool (symB n t s)) w) : CallK Try.prog 253 [.int .i64 s, .int .i64 n, .int .i64 t] k w := by
  have hn' : 1 ≤ n ∧ n ≤ 6 := by simpa [inB] using hn
  have ht' : 1 ≤ t ∧ t ≤ 4 := by simpa [inB] using ht
  refine enter253 ?_
  unfold S253
  simp only [go_sem, Nat.reduceEqDiff]
  rw [i64_of (by omega) (by omega), i64_of (by omega) (by omega)]
  exact in_c hk
theorem areSymbols1_c {w : World} {b b' e e' : Nat} {s n t : Int} (hB : Box w b [.int .i64 n] e) (hB' : Box w b' [.int .i64 t] e') (hn : inB n 1 6 = true) (ht : inB t 1 4 = true) {k : Value → World → Prop} (hk : k (.bool (!symB n t s)) w) :
    CallK Try.prog 252 [.int .i64 s, .pointer (some ⟨b, 0, none⟩), .pointer (some ⟨b', 0, none⟩)] k w := by
  refine enter252 ?_
  unfold S252
  rw [ldB3 hB rfl, ldB3 hB' rfl]
  refine isSymbol_c hn ht ?_
  simp only [go_sem, Nat.reduceEqDiff]
  exact hk
theorem areSymbols_c {w : World} {X : Option Addr} {c : Nat} {xs : List Int} {n t : Int} (hx : Ints w X xs) (hn : inB n 1 6 = true) (ht : inB t 1 4 = true) {k : Value → World → Prop} (hk : ∀ w', Gr w w' → k (.bool (xs.all (symB n t))) w') :
    CallK Try.prog 154 [.slice X xs.length c, .int .i64 n, .int .i64 t] k w := by
  refine enter154 ?_
  unfold S154
  refine do_box fun b w1 g1 hb1 hB => ?_
  refine do_box fun b' w2 g2 hb2 hB' => ?_
  have hB := hB.gr g2
  simp only [go_sem, Nat.reduceEqDiff]
  have hp : Pred 4 (.func (.func 252) [].toArray [.pointer (some ⟨b, 0, none⟩), .pointer (some ⟨b', 0, none⟩)].toArray) (fun x => !symB n t x) w2 := fun w3 g3 x k hk =>
    callVc (areSymbols1_c (hB.gr g3) (hB'.gr g3) hn ht (hk w3 (Gr.refl w3)))
  refine containsFunc_c (hx.gr (gr_trans g1 g2)) hp fun w3 g3 => ?_
  simp only [go_sem, Nat.reduceEqDiff]
  have := hk w3 (gr_trans (gr_trans g1 g2) g3)
  rwa [show xs.all (symB n t) = !xs.any (fun x => !symB n t x) from by simp [List.not_any_eq_all_not]] at this
theorem slicesEqual_c {w : World} {X Y : Option Addr} {c d : Nat} {xs ys : List Int} (hx : Ints w X xs) (hy : Ints w Y ys) {k : Value → World → Prop} (hk : ∀ w', Gr w w' → k (.bool (decide (xs = ys))) w') :
    CallK Try.prog 180 [.slice X xs.length c, .slice Y ys.length d] k w := by
  refine enter180 ?_
  unfold S180
  simp only [go_sem, Nat.reduceEqDiff]
  by_cases hl : xs.length = ys.length
  rotate_left
  · simp only [Int.ofNat_inj, hl, decide_false, Bool.not_false, go_sem, Nat.reduceEqDiff]
    have := hk _ (Gr.refl w)
    rwa [decide_eq_false (fun e => hl (by rw [e]))] at this
  simp only [Int.ofNat_inj, hl, decide_true, Bool.not_true, go_sem, Nat.reduceEqDiff]
  rw [← hl]
  refine ⟨fun f w' => ∃ i : Nat, i ≤ xs.length ∧ f 13 = .int .i64 i ∧ Gr w w' ∧ xs.take i = ys.take i, fun f _ => xs.length - (intOf (f 13)).toNat, ⟨0, Nat.zero_le _, rfl, Gr.refl w, rfl⟩, ?_⟩
  rintro f w1 hag ⟨i, hi, h13, hg, hpre⟩
  have h0 : f 0 = .slice X xs.length c := hag 0 (by decide)
  have h1 : f 1 = .slice Y xs.length d := hag 1 (by decide)
  have h12 : f 12 = .int .i64 xs.length := hag 12 (by decide)
  simp only [h0, h1, h12, h13, go_sem, Nat.reduceEqDiff]
  by_cases hlt : i < xs.length
  · have hlt' : (i : Int) < xs.length := by omega
    have := hx.le
    simp only [hlt', decide_true, go_sem, Nat.reduceEqDiff]
    rw [ixn27 hx.ptr hlt, ld3 ((hx.gr (gr_trans hg (gr_drew w1))).cell i hlt), ixn27 (hl ▸ hy.ptr) hlt, ld3 ((hy.gr (gr_trans hg (gr_drew w1))).cell i (by omega))]
    simp only [go_sem, Nat.reduceEqDiff]
    by_cases he : xs.getD i 0 = ys.getD i 0
    · simp only [he, decide_true, Bool.not_true, go_sem, Nat.reduceEqDiff]
      rw [i64_of (by omega) (by omega)]
      refine ⟨⟨i + 1, hlt, rfl, gr_trans hg (gr_drew w1), ?_⟩, ?_⟩
      · rw [take_snoc hlt, take_snoc (by omega), hpre, he]
      · simp only [intOf]
        omega
    · simp only [he, decide_false, Bool.not_false, go_sem, Nat.reduceEqDiff]
      have := hk _ (gr_trans hg (gr_drew w1))
      rwa [decide_eq_false (fun e => he (by rw [e]))] at this
  · simp only [show ¬ (i : Int) < xs.length from by omega, decide_false, go_sem, Nat.reduceEqDiff]
    have := hk _ hg
    rwa [decide_eq_true] at this
    rwa [List.take_of_length_le (by omega), List.take_of_length_le (by omega)] at hpre
theorem sameRule_c {F E : Nat → Prop} {w : World} {v u : Value} {r q : RuleL} (hv : RuleV F w v r) (hu : RuleV E w u q) {k : Value → World → Prop} (hk : ∀ w', Gr w w' → k (.bool (decide (r = q))) w') :
    CallK Try.prog 242 [v, u] k w := by
  obtain ⟨Y, c, rfl, hc, hy⟩ := hv
  obtain ⟨Z, d, rfl, hd, hz⟩ := hu
  refine enter242 ?_
  unfold S242
  refine do_box fun b w1 g1 hb1 hb => ?_
  refine do_box fun b' w2 g2 hb2 hb' => ?_
  have hb := hb.gr g2
  have g := gr_trans g1 g2
  simp only [go_sem, Nat.reduceEqDiff]
  rw [ldB3 hb rfl, ldB3 hb' rfl]
  simp only [go_sem, Nat.reduceEqDiff]
  by_cases h : r.1 = q.1
  · simp only [h, decide_true, go_sem, Nat.reduceEqDiff]
    rw [ldB27 hb rfl]
    rw [ldB27 hb' rfl]
    refine slicesEqual_c (hy.is.gr g) (hz.is.gr g) fun w3 g3 => ?_
    have := hk w3 (gr_trans g g3)
    by_cases h2 : r.2 = q.2
    · simp only [h2, decide_true, go_sem, Nat.reduceEqDiff]
      rwa [decide_eq_true (Prod.ext h h2)] at this
    · simp only [h2, decide_false, go_sem, Nat.reduceEqDiff]
      rwa [decide_eq_false (fun e => h2 (by rw [e]))] at this
  · simp only [h, decide_false, go_sem, Nat.reduceEqDiff]
    have := hk w2 g
    rwa [decide_eq_false (fun e => h (by rw [e]))] at this
theorem isGrammar1_c {E F : Nat → Prop} {w : World} {v : Value} {q r : RuleL} {Z : Option Addr} {b d e : Nat} (hv : RuleV E w v q) (hB : Box w b [.int .i64 r.1, .slice Z r.2.length d] e) (hz : IntsF F w Z r.2) (hd : r.2.length ≤ d) {k : Value → World → Prop} (hk : ∀ w', Gr w w' → k (.bool (decide (q = r))) w') :
    CallK Try.prog 249 ([v] ++ [.pointer (some ⟨b, 0, none⟩)]) k w := by
  refine enter249 ?_
  unfold S249
  obtain ⟨Y, c, rfl, hc, hy⟩ := hv
  refine do_box fun b1 w1 g1 hb1 hB1 => ?_
  rw [ldB_agg agg33 sz33 rfl hB1, ldB_agg agg33 sz33 rfl (hB.gr g1)]
  exact sameRule_c (r := q) (q := r) ⟨Y, c, rfl, hc, hy.gr g1⟩ ⟨Z, d, rfl, hd, hz.gr g1⟩ fun w2 g2 => hk w2 (gr_trans g1 g2)
theorem isGrammar_c {F : Nat → Prop} {w : World} {v : Value} {gm : Gram} (hv : GramV F w v gm) {k : Value → World → Prop} (hk : ∀ w', Gr w w' → k (.bool (goodG gm)) w') :
    CallK Try.prog 148 [v] k w := by
  have hv0 := hv
  obtain ⟨Y, c, rfl, hc, hy⟩ := hv
  refine enter148 ?_
  unfold S148
  refine do_box fun b w1 g1 hb1 hB => ?_
  simp only [go_sem, Nat.reduceEqDiff]
  rw [ldB3 hB rfl]
  refine in_c ?_
  cases hn : inB gm.nons 1 6
  · simp only [Bool.not_false, go_sem, Nat.reduceEqDiff]
    have := hk _ g1
    rwa [show goodG gm = false from by simp [goodG, hn]] at this
  simp only [Bool.not_true, go_sem, Nat.reduceEqDiff]
  rw [ldB3 hB rfl]
  refine in_c ?_
  cases ht : inB gm.toks 1 4
  · simp only [Bool.not_false, go_sem, Nat.reduceEqDiff]
    have := hk _ g1
    rwa [show goodG gm = false from by simp [goodG, ht]] at this
  simp only [Bool.not_true, go_sem, Nat.reduceEqDiff]
  rw [ldB24 hB rfl]
  simp only [go_sem, Nat.reduceEqDiff]
  by_cases hl : gm.rules.length ≤ 16
  rotate_left
  · simp only [show (16 : Int) < gm.rules.length from by omega, decide_true, go_sem, Nat.reduceEqDiff]
    have := hk _ g1
    rwa [show goodG gm = false from by simp [goodG, hl]] at this
  simp only [show ¬ (16 : Int) < gm.rules.length from by omega, decide_false, go_sem, Nat.reduceEqDiff]
  rw [ldB24 hB rfl]
  simp only [go_sem, Nat.reduceEqDiff]
  have hn' : 1 ≤ gm.nons ∧ gm.nons ≤ 6 := by simpa [inB] using hn
  have ht' : 1 ≤ gm.toks ∧ gm.toks ≤ 4 := by simpa [inB] using ht
  refine ⟨fun f w' => ∃ i : Nat, i ≤ gm.rules.length ∧ f 24 = .int .i64 i ∧ Gr w1 w' ∧ ∀ j, j < i → goodR gm.nons gm.toks gm.rules j = true, fun f _ => gm.rules.length - (intOf (f 24)).toNat, ⟨0, Nat.zero_le _, rfl, Gr.refl w1, fun j hj => absurd hj (Nat.not_lt_zero j)⟩, ?_⟩
  rintro f w2 hag ⟨i, hi, h28, g2, hpre⟩
  have f1 : f 1 = .pointer (some ⟨b, 0, none⟩) := hag 1 (by decide)
  have f26 : f 22 = .slice Y gm.rules.length c := hag 22 (by decide)
  have f27 : f 23 = .int .i64 gm.rules.length := hag 23 (by decide)
  simp only [f1, f26, f27, h28, go_sem, Nat.reduceEqDiff]
  by_cases hlt : i < gm.rules.length
  · have hlt' : (i : Int) < gm.rules.length := by omega
    simp only [hlt', decide_true, go_sem, Nat.reduceEqDiff]
    have g := gr_trans g1 g2
    rw [ixn24 hy.ptr hlt]
    refine ld_rule agg33 sz33 (hy.gr g) hlt fun v hv => ?_
    obtain ⟨Z, d, rfl, hd, hz⟩ := hv
    refine do_alloc_of inf33 fun b3 w3 g3 hb3 h3 => ?_
    have n3 := (hB.gr g2).ne hb3
    refine do_store sz33 rfl (by intro u hu; simp [Value.cells] at hu; rcases hu with rfl | rfl <;> rfl) h3 (by simp [Value.cells]) fun w4 g4 s4 h4 => ?_
    have hB2 := (hB.gr (gr_trans g2 g3)).put g4 n3
    have g' := gr_put (gr_trans g g3) g4 (Nat.le_trans g.size hb3)
    have k0 : goodR gm.nons gm.toks gm.rules i = false → ∀ w', Gr w w' → k (.bool false) w' := fun h w' gw => by
      have := hk w' gw
      rwa [show goodG gm = false from by simp only [goodG, range_not hlt h, Bool.and_false]] at this
    simp only [go_sem, Nat.reduceEqDiff]
    rw [ldB3 h4 rfl, ldB3 hB2 rfl]
    simp only [go_sem, Nat.reduceEqDiff]
    rw [i64_of (by omega) (by omega)]
    refine in_c ?_
    cases hr : inB (rul gm.rules i).1 0 (gm.nons - 1)
    · simp only [Bool.not_false, go_sem, Nat.reduceEqDiff]
      exact k0 (by simp [goodR, hr]) _ g'
    simp only [Bool.not_true, go_sem, Nat.reduceEqDiff]
    rw [ldB27 h4 rfl]
    simp only [go_sem, Nat.reduceEqDiff]
    by_cases h5 : (rul gm.rules i).2.length ≤ 4
    rotate_left
    · simp only [show (4 : Int) < (rul gm.rules i).2.length from by omega, decide_true, go_sem, Nat.reduceEqDiff]
      exact k0 (by simp [goodR, h5]) _ g'
    simp only [show ¬ (4 : Int) < (rul gm.rules i).2.length from by omega, decide_false, go_sem, Nat.reduceEqDiff]
    rw [ldB27 h4 rfl]
    rw [ldB3 hB2 rfl]
    rw [ldB3 hB2 rfl]
    have g24 := gr_put g3 g4 hb3
    refine areSymbols_c (hz.is.gr g24) hn ht fun w5 g5 => ?_
    simp only [go_sem, Nat.reduceEqDiff]
    cases hs : (rul gm.rules i).2.all (symB gm.nons gm.toks)
    · simp only [Bool.not_false, go_sem, Nat.reduceEqDiff]
      exact k0 (by simp only [goodR, hs, Bool.and_false, Bool.false_and]) _ (gr_trans g' g5)
    simp only [Bool.not_true, go_sem, Nat.reduceEqDiff]
    have gw5 := gr_trans g' g5
    rw [ldB24 (hB2.gr g5) rfl]
    rw [slh24 (by omega) (by omega), sub_zero]
    simp only [Int.toNat_natCast, go_sem, Nat.reduceEqDiff]
    have hti : (gm.rules.take i).length = i := by simp; omega
    have hyt : RulesF F w5 Y (gm.rules.take i) := (hy.gr gw5).take i
    have hp : PredR 4 (.func (.func 249) [].toArray [.pointer (some ⟨b3, 0, none⟩)].toArray) (fun q => decide (q = rul gm.rules i)) w5 := fun w6 g6 E v q hv k hk =>
      callVc (isGrammar1_c hv (h4.gr (gr_trans g5 g6)) (hz.gr (gr_trans g24 (gr_trans g5 g6))) hd hk)
    have hcf := containsFuncR_c (c := c) hyt hp (k := ?k)
    rw [hti] at hcf
    refine hcf ?_
    intro w6 g6
    have e : (gm.rules.take i).any (fun q => decide (q = rul gm.rules i)) = (gm.rules.take i).any (fun q => decide (rul gm.rules i = q)) := by
      congr 1
      funext q
      exact decide_eq_decide.2 ⟨fun h => h.symm, fun h => h.symm⟩
    rw [e]
    cases ha : (gm.rules.take i).any (fun q => decide (rul gm.rules i = q))
    · simp only [go_sem, Nat.reduceEqDiff]
      have d28 : f 24 = .int .i64 i := h28
      rw [i64_of (by omega) (by omega)]
      refine ⟨⟨i + 1, hlt, rfl, gr_trans (gr_trans g2 g24) (gr_trans g5 g6), fun l hl => ?_⟩, ?_⟩
      · rcases Nat.lt_succ_iff_lt_or_eq.1 hl with h | rfl
        · exact hpre l h
        · simp only [goodR, hr, h5, hs, ha, decide_true, Bool.not_false, Bool.and_self]
      · simp only [intOf]
        omega
    · simp only [go_sem, Nat.reduceEqDiff]
      exact k0 (by simp only [goodR, ha, Bool.not_true, Bool.and_false]) _ (gr_trans gw5 g6)
  · simp only [show ¬ (i : Int) < gm.rules.length from by omega, decide_false, go_sem, Nat.reduceEqDiff]
    have := hk _ (gr_trans g1 g2)
    rwa [show goodG gm = true from by simp only [goodG, hn, ht, hl, decide_true, Bool.true_and]; exact range_all fun j hj => hpre j (by omega)] at this
end Go.Proofs.Ytegcjkhebecgbaa

/- Contract: rules moved on (the reference's l20Shift). -/
set_option linter.unusedVariables false
set_option linter.unusedSimpArgs false
set_option maxRecDepth 100000
namespace Go.Sh
open Go
def shiftS (d s : Int) : Int := if 0 ≤ s then IntKind.i64.wrap (s + d) else s
def shiftR (d : Int) (r : RuleL) : RuleL := (IntKind.i64.wrap (r.1 + d), r.2.map (shiftS d))
def shiftRs (d : Int) (rs : List RuleL) : List RuleL := rs.map (shiftR d)
theorem map_take_snoc {xs : List Int} {i : Nat} {p : Int → Int} (h : i < xs.length) : (xs.map p).take (i + 1) = (xs.map p).take i ++ [p (xs.getD i 0)] := by
  rw [take_snoc (by simpa using h)]
  simp [List.getD_eq_getElem?_getD, h]
end Go.Sh
namespace Go.Proofs.Ytegcjkhebecgbaa
open Go Go.Sh Go.RowKit

theorem l20Shift_c {F : Nat → Prop} {w : World} {v : Value} {gm : Gram} {d : Int} (hv : GramV F w v gm) (hg : goodG gm = true) {k : Value → World → Prop}
    (hk : ∀ X c ps w', Gr w w' → OwnR 33 3 w' w.heap.size X c (shiftRs d gm.rules) ps → k (.slice X gm.rules.length c) w') :
    CallK Try.prog 259 [v, .int .i64 d] k w := by
  obtain ⟨Y, c, rfl, hc, hy⟩ := hv
  have hgl : gm.rules.length ≤ 16 := by
    simp only [goodG, Bool.and_eq_true, decide_eq_true_eq] at hg
    exact hg.1.2
  have hgr : ∀ i, i < gm.rules.length → (rul gm.rules i).2.length ≤ 4 := fun i hi => by
    simp only [goodG, Bool.and_eq_true, List.all_eq_true] at hg
    have := hg.2 i (List.mem_range.2 hi)
    simp only [goodR, Bool.and_eq_true, decide_eq_true_eq] at this
    exact this.1.1.2
  refine enter259 ?_
  unfold S259
  refine do_box fun b w1 g1 hb1 hB => ?_
  simp only [go_sem, Nat.reduceEqDiff]
  rw [ldB24 hB rfl]
  simp only [go_sem, Nat.reduceEqDiff]
  refine ⟨fun f w' => ∃ (i : Nat) (X : Option Addr) (e : Nat) (ps : Nat → Option Addr × Nat), i ≤ gm.rules.length ∧ f 14 = .int .i64 i ∧ f 5 = .slice X i e ∧ Gr w w' ∧ OwnR 33 3 w' w.heap.size X e (shiftRs d (gm.rules.take i)) ps, fun f _ => gm.rules.length - (intOf (f 14)).toNat,
    ⟨0, none, 0, fun _ => (none, 0), Nat.zero_le _, rfl, rfl, g1, ⟨[], Row.nil _ _ _ _, fun j hj => by simp [shiftRs] at hj⟩, fun j hj => by simp [shiftRs] at hj, fun i j hi => by simp [shiftRs] at hi⟩, ?_⟩
  rintro f w2 hag ⟨i, X, e, ps, hi, h14, h5, g2, o2⟩
  have f1 : f 1 = .int .i64 d := hag 1 (by decide)
  have f12 : f 12 = .slice Y gm.rules.length c := hag 12 (by decide)
  have f13 : f 13 = .int .i64 gm.rules.length := hag 13 (by decide)
  have hlen : (shiftRs d (gm.rules.take i)).length = i := by simp [shiftRs]; omega
  simp only [f1, f12, f13, h14, h5, go_sem, Nat.reduceEqDiff]
  by_cases hlt : i < gm.rules.length
  rotate_left
  · simp only [show ¬ (i : Int) < gm.rules.length from by omega, decide_false, go_sem, Nat.reduceEqDiff]
    obtain rfl : i = gm.rules.length := by omega
    rw [List.take_length] at o2
    exact hk _ _ _ _ g2 o2
  have hlt' : (i : Int) < gm.rules.length := by omega
  simp only [hlt', decide_true, go_sem, Nat.reduceEqDiff]
  rw [ixn24 hy.ptr hlt]
  refine ld_rule agg33 sz33 (hy.gr g2) hlt fun v hv => ?_
  obtain ⟨Z, z, rfl, hz0, hz⟩ := hv
  have hz4 := hgr i hlt
  refine do_alloc_of inf33 fun b3 w3 g3 hb3 h3 => ?_
  refine do_store sz33 rfl (by intro u hu; simp [Value.cells] at hu; rcases hu with rfl | rfl <;> rfl) h3 (by simp [Value.cells]) fun w4 g4 s4 h4 => ?_
  have g24 := gr_put g3 g4 hb3
  simp only [go_sem, Nat.reduceEqDiff]
  rw [ldB3 h4 rfl]
  simp only [go_sem, Nat.reduceEqDiff]
  rw [bd33 (cells := #[.int .i64 (IntKind.i64.wrap ((rul gm.rules i).1 + d)), .slice none 0 0]) rfl]
  refine do_alloc_of inf33 fun b5 w5 g5 hb5 h5 => ?_
  have n5 := h4.ne hb5
  refine do_store sz33 rfl (by intro u hu; simp [Value.cells] at hu; rcases hu with rfl | rfl <;> rfl) h5 (by simp [Value.cells]) fun w6 g6 s6 h6 => ?_
  have h46 := (h4.gr g5).put g6 n5
  have g26 := gr_trans g24 (gr_put g5 g6 hb5)
  rw [ldB27 h46 rfl]
  simp only [go_sem, Nat.reduceEqDiff]
  have hq5 : w2.heap.size ≤ b5 := Nat.le_trans g24.size hb5
  refine ⟨fun f' w' => ∃ (j : Nat) (U : Option Addr) (u : Nat), j ≤ (rul gm.rules i).2.length ∧ f' 26 = .int .i64 j ∧ Gr w2 w' ∧ Box w' b5 [.int .i64 (IntKind.i64.wrap ((rul gm.rules i).1 + d)), .slice U j u] 33 ∧ Own 3 w' w2.heap.size U u (((rul gm.rules i).2.map (shiftS d)).take j), fun f' _ => (rul gm.rules i).2.length - (intOf (f' 26)).toNat,
    ⟨0, none, 0, Nat.zero_le _, rfl, g26, h6, Row.nil _ _ _ _⟩, ?_⟩
  rintro f' w7 hag' ⟨j, U, u, hj, h26, g7, hB7, o7⟩
  have e1 : f' 1 = .int .i64 d := (hag' 1 (by decide)).trans f1
  have e8 : f' 8 = .pointer (some ⟨b5, 0, none⟩) := hag' 8 (by decide)
  have e24 : f' 24 = .slice Z (rul gm.rules i).2.length z := hag' 24 (by decide)
  have e25 : f' 25 = .int .i64 (rul gm.rules i).2.length := hag' 25 (by decide)
  have e5 : f' 5 = .slice X i e := (hag' 5 (by decide)).trans (by assumption)
  have e14 : f' 14 = .int .i64 i := (hag' 14 (by decide)).trans h14
  simp only [e1, e8, e24, e25, e5, e14, h26, go_sem, Nat.reduceEqDiff]
  by_cases hlt2 : j < (rul gm.rules i).2.length
  · have hlt2' : (j : Int) < (rul gm.rules i).2.length := by omega
    simp only [hlt2', decide_true, go_sem, Nat.reduceEqDiff]
    rw [ixn27 hz.is.ptr hlt2, ld3 ((hz.is.gr g7).cell j hlt2)]
    have hl : (((rul gm.rules i).2.map (shiftS d)).take j).length = j := by simp; omega
    have hshift : ∀ (s' : Int), s' = shiftS d ((rul gm.rules i).2.getD j 0) → ints [s'] = ints [shiftS d ((rul gm.rules i).2.getD j 0)] := fun _ e => by rw [e]
    by_cases hs : 0 ≤ (rul gm.rules i).2.getD j 0
    · simp only [hs, decide_true, go_sem, Nat.reduceEqDiff]
      rw [show IntKind.i64.wrap ((rul gm.rules i).2.getD j 0 + d) = shiftS d ((rul gm.rules i).2.getD j 0) from (if_pos hs).symm]
      rw [ldB27 hB7 rfl]
      refine bs27 [.int .i64 (shiftS d ((rul gm.rules i).2.getD j 0))] (by decide) (by simp [Instr.fill, madeCells, Value.cells, rng1]) rfl fun b8 w8 hb8 hb8' g8 hbox8 hrow8 => ?_
      have o8 : Own 3 w8 w7.heap.size (some ⟨b8, 0, none⟩) 1 [shiftS d ((rul gm.rules i).2.getD j 0)] := hrow8 _ (Nat.le_refl _)
      refine apI (o7.gr g8) o8.ints hl.symm rfl (by rw [hl]; simp; omega) (Nat.le_trans g7.size g8.size) fun U' u' w9 o9 g9 => ?_
      rw [← map_take_snoc hlt2] at o9
      rw [show (((rul gm.rules i).2.map (shiftS d)).take j ++ [shiftS d ((rul gm.rules i).2.getD j 0)]).length = j + 1 from by simp; omega]
      have hB9 := (hB7.gr g8).kept g9 (box_row (hB7.gr g8) (o7.gr g8) (by decide))
      refine do_store sz27 rfl (by intro u hu; simp [Value.cells] at hu; subst hu; rfl) hB9 (by simp [Value.cells]) fun w10 g10 s10 h10 => ?_
      rw [i64_of (by omega) (by omega)]
      have g89 := gr_mod (gr_trans g7 g8) g9 fun q hq => (Row.ge o7 hq).1
      refine ⟨⟨j + 1, U', u', hlt2, rfl, gr_put g89 g10 hq5, h10, Row.kept o9 g10 (.inr (box_row hB9 o9 (by decide)))⟩, ?_⟩
      · simp only [intOf]
        omega
    · simp only [hs, decide_false, go_sem, Nat.reduceEqDiff]
      rw [show [((0 : Nat), Value.int .i64 ((rul gm.rules i).2.getD j 0))] = [((0 : Nat), Value.int .i64 (shiftS d ((rul gm.rules i).2.getD j 0)))] from by unfold shiftS; rw [if_neg hs]]
      rw [ldB27 hB7 rfl]
      refine bs27 [.int .i64 (shiftS d ((rul gm.rules i).2.getD j 0))] (by decide) (by simp [Instr.fill, madeCells, Value.cells, rng1]) rfl fun b8 w8 hb8 hb8' g8 hbox8 hrow8 => ?_
      have o8 : Own 3 w8 w7.heap.size (some ⟨b8, 0, none⟩) 1 [shiftS d ((rul gm.rules i).2.getD j 0)] := hrow8 _ (Nat.le_refl _)
      refine apI (o7.gr g8) o8.ints hl.symm rfl (by rw [hl]; simp; omega) (Nat.le_trans g7.size g8.size) fun U' u' w9 o9 g9 => ?_
      rw [← map_take_snoc hlt2] at o9
      rw [show (((rul gm.rules i).2.map (shiftS d)).take j ++ [shiftS d ((rul gm.rules i).2.getD j 0)]).length = j + 1 from by simp; omega]
      have hB9 := (hB7.gr g8).kept g9 (box_row (hB7.gr g8) (o7.gr g8) (by decide))
      refine do_store sz27 rfl (by intro u hu; simp [Value.cells] at hu; subst hu; rfl) hB9 (by simp [Value.cells]) fun w10 g10 s10 h10 => ?_
      rw [i64_of (by omega) (by omega)]
      have g89 := gr_mod (gr_trans g7 g8) g9 fun q hq => (Row.ge o7 hq).1
      refine ⟨⟨j + 1, U', u', hlt2, rfl, gr_put g89 g10 hq5, h10, Row.kept o9 g10 (.inr (box_row hB9 o9 (by decide)))⟩, ?_⟩
      · simp only [intOf]
        omega
  · simp only [show ¬ (j : Int) < (rul gm.rules i).2.length from by omega, decide_false, go_sem, Nat.reduceEqDiff]
    obtain rfl : j = (rul gm.rules i).2.length := by omega
    rw [List.take_of_length_le (by simp)] at o7
    rw [ldB_agg agg33 sz33 rfl hB7]
    refine bs24 [.int .i64 (IntKind.i64.wrap ((rul gm.rules i).1 + d)), .slice U (rul gm.rules i).2.length u] (by decide) (by simp [Instr.fill, madeCells, Value.cells, rng2]) rfl fun b8 w8 hb8 hb8' g8 hbox8 hrow8 => ?_
    have hN : RCells [.int .i64 (IntKind.i64.wrap ((rul gm.rules i).1 + d)), .slice U (rul gm.rules i).2.length u] [shiftR d (rul gm.rules i)] (fun _ => (U, u)) := ⟨rfl, fun j hj => by
      obtain rfl : j = 0 := by simpa using hj
      simp [rul, shiftR]⟩
    have gw7 := gr_trans g2 g7
    have gw8 := gr_trans gw7 g8
    refine do_append_rules (ps := ps) (rs := shiftRs d (gm.rules.take i)) (qs := [shiftR d (rul gm.rules i)]) u24 inf33 rfl (by decide) hlen.symm rfl (o2.gr (gr_trans g7 g8)) (Row.src (hrow8 _ (Nat.le_refl _))) hN (fun j hj => ?_) (fun i j hi hj hij => ?_) (fun i' j hi' hj => ?_) (by rw [hlen]; simp; omega) (by rw [hlen]; simp; omega) gw8.size fun X' c' w9 g9 o9 _ => ?_
    · obtain rfl : j = 0 := by simpa using hj
      exact Row.mono (Row.gr o7 g8) g2.size
    · simp at hi hj
      omega
    · exact blk_ne (fun q hq => (Row.ge (o2.own i' hi') hq).2) (fun q hq => (Row.ge o7 hq).1) (Nat.le_refl _)
    rw [i64_of (by omega) (by omega)]
    refine ⟨⟨i + 1, X', c', _, hlt, rfl, rfl, gr_mod gw8 g9 fun q hq => ?_, by
      rw [take_rul hlt, shiftRs, List.map_append]
      exact o9⟩, ?_⟩
    · obtain ⟨cells, hr, _⟩ := o2.row
      exact (Row.ge hr hq).1
    · simp only [intOf]
      omega
end Go.Proofs.Ytegcjkhebecgbaa

/- Contract: a grammar made of grammars (the reference's l20Made). -/
set_option linter.unusedVariables false
set_option linter.unusedSimpArgs false
set_option maxRecDepth 100000
namespace Go.Sh
open Go
def gmn (gs : List Gram) (j : Nat) : Gram := gs.getD j ⟨0, 0, []⟩
/-- A slice of grammars that is read; it lies in F. -/
structure GramsF (F : Nat → Prop) (w : World) (X : Option Addr) (gs : List Gram) : Prop where
  le : gs.length ≤ 9223372036854775807
  ptr : 0 < gs.length → X = some (ad X)
  foot : 0 < gs.length → F (ad X).block
  row : ∀ j, j < gs.length → ∃ Y c, w.cell? ((ad X).add (j * 3)) = some (.int .i64 (gmn gs j).nons) ∧ w.cell? ((ad X).add (j * 3 + 1)) = some (.int .i64 (gmn gs j).toks) ∧ w.cell? ((ad X).add (j * 3 + 2)) = some (.slice Y (gmn gs j).rules.length c) ∧ (gmn gs j).rules.length ≤ c ∧ RulesF F w Y (gmn gs j).rules
theorem GramsF.gx {F D : Nat → Prop} {w w' : World} {X : Option Addr} {gs : List Gram} (h : GramsF F w X gs) (g : Gx D w w') (hn : ∀ b, F b → ¬ D b) : GramsF F w' X gs := by
  refine ⟨h.le, h.ptr, h.foot, fun j hj => ?_⟩
  obtain ⟨Y, c, h1, h2, h3, h4, h5⟩ := h.row j hj
  have hf := hn _ (h.foot (by omega))
  exact ⟨Y, c, g.cell h1 (by rw [add_block]; exact hf), g.cell h2 (by rw [add_block]; exact hf), g.cell h3 (by rw [add_block]; exact hf), h4, h5.gx g hn⟩
theorem ld_gram {P : Program} {t : TypeId} (ht : agg P t) (hs : szOf P t 3) {F : Nat → Prop} {w : World} {X : Option Addr} {gs : List Gram} (hx : GramsF F w X gs) {j : Nat} (hj : j < gs.length) {k : Value → Prop}
    (hk : ∀ v, GramV F w v (gmn gs j) → k v) : Rd P (WS.at w) (sLoad t (.pointer (some ((ad X).add (j * 3))))) k := by
  obtain ⟨Y, c, h1, h2, h3, h4, h5⟩ := hx.row j hj
  rw [ld_agg ht hs (cs := [.int .i64 (gmn gs j).nons, .int .i64 (gmn gs j).toks, .slice Y (gmn gs j).rules.length c]) rfl]
  · exact hk _ ⟨Y, c, rfl, h4, h5⟩
  · intro i hi
    match i, hi with
    | 0, _ => rw [add_add, Nat.add_zero]; exact h1
    | 1, _ => rw [add_add]; exact h2
    | 2, _ => rw [add_add]; exact h3
def nextN (gs : List Gram) : Nat → Int
  | 0 => 1
  | i + 1 => IntKind.i64.wrap (nextN gs i + (gmn gs i).nons)
def moreN (first : List RuleL) (gs : List Gram) : Nat → List RuleL
  | 0 => first
  | i + 1 => moreN first gs i ++ shiftRs (nextN gs i) (gmn gs i).rules
theorem moreN_length {first : List RuleL} {gs : List Gram} (hg : ∀ j, j < gs.length → (gmn gs j).rules.length ≤ 16) : ∀ i, i ≤ gs.length → (moreN first gs i).length ≤ first.length + 16 * i
  | 0, _ => by simp [moreN]
  | i + 1, hi => by
    have := moreN_length (first := first) hg i (by omega)
    have := hg i (by omega)
    simp [moreN, shiftRs]
    omega
theorem good_len {g : Gram} (hg : goodG g = true) : g.rules.length ≤ 16 := by
  simp only [goodG, Bool.and_eq_true, decide_eq_true_eq] at hg
  exact hg.1.2
/-- Where a block that is old comes from. -/
def From (w : World) (X0 X : Option Addr) : Prop := ∀ q, blk X = some q → q < w.heap.size → blk X0 = some q
theorem From.moved {w w2 : World} {X0 X X' : Option Addr} (h : From w X0 X) (hm : Moved w2 X X') (hs : w.heap.size ≤ w2.heap.size) : From w X0 X' := by
  intro q hq hlt
  rcases hm with e | e
  · exact h q (e ▸ hq) hlt
  · have := e q hq
    omega
abbrev zeroGram : Value := .agg #[.int .i64 0, .int .i64 0, .slice none 0 0]
end Go.Sh
namespace Go.Proofs.Ytegcjkhebecgbaa
open Go Go.Sh Go.RowKit

theorem l20Made_c {F : Nat → Prop} {w : World} {B c n d : Nat} {X0 G : Option Addr} {nons toks : Int} {first : List RuleL} {gs : List Gram} {ps : Nat → Option Addr × Nat}
    (hf : OwnR 33 3 w B X0 c first ps) (hn : n = first.length) (hfl : first.length ≤ 16) (hx : GramsF F w G gs) (hgl : gs.length ≤ 4) (hgood : ∀ j, j < gs.length → goodG (gmn gs j) = true) (hsep : ∀ q, F q → blk X0 ≠ some q) (hB : B ≤ w.heap.size) {k : Value → World → Prop}
    (hk : ∀ v w', Gx (fun q => blk X0 = some q) w w' → (if goodG ⟨nons, toks, moreN first gs gs.length⟩ = true then GramO w' B v ⟨nons, toks, moreN first gs gs.length⟩ else v = zeroGram) → k (.tuple #[v, .bool (goodG ⟨nons, toks, moreN first gs gs.length⟩)]) w') :
    CallK Try.prog 171 [.int .i64 nons, .int .i64 toks, .slice X0 n c, .slice G gs.length d] k w := by
  subst hn
  refine enter171 ?_
  unfold S171
  refine do_alloc_of inf26 fun b1 w1 g1 hb1 h1 => ?_
  rw [bd26 (cells := #[.int .i64 nons, .int .i64 toks, .slice X0 first.length c]) rfl]
  refine do_alloc_of inf26 fun b4 w2 g2 hb4 h4 => ?_
  have n4 := h1.ne hb4
  refine do_store sz26 rfl (by intro u hu; simp [Value.cells] at hu; rcases hu with rfl | rfl | rfl <;> rfl) h4 (by simp [Value.cells]) fun w3 g3 s3 h4 => ?_
  have h1 := (h1.gr g2).put g3 n4
  have q4 := Nat.le_trans g1.size hb4
  have g := gr_put (gr_trans g1 g2) g3 q4
  simp only [go_sem, Nat.reduceEqDiff]
  refine ⟨fun f w' => ∃ (i : Nat) (X : Option Addr) (e : Nat) (ps : Nat → Option Addr × Nat), i ≤ gs.length ∧ f 20 = .int .i64 i ∧ f 11 = .int .i64 (nextN gs i) ∧ Gx (fun q => blk X0 = some q) w w' ∧ Box w' b1 [.int .i64 0, .int .i64 0, .slice none 0 0] 26 ∧ Box w' b4 [.int .i64 nons, .int .i64 toks, .slice X (moreN first gs i).length e] 26 ∧ From w X0 X ∧ OwnR 33 3 w' B X e (moreN first gs i) ps, fun f _ => gs.length - (intOf (f 20)).toNat,
    ⟨0, X0, c, ps, Nat.zero_le _, rfl, rfl, gx_of_gr g _, h1, h4, fun q hq _ => hq, hf.gr g⟩, ?_⟩
  rintro f w4 hag ⟨i, X, e, ps, hi, h20, h11, g4, hb1', hb4', hfrom, o4⟩
  have f8 : f 8 = .pointer (some ⟨b1, 0, none⟩) := hag 8 (by decide)
  have f10 : f 10 = .pointer (some ⟨b4, 0, none⟩) := hag 10 (by decide)
  have f18 : f 18 = .slice G gs.length d := hag 18 (by decide)
  have f19 : f 19 = .int .i64 gs.length := hag 19 (by decide)
  simp only [f8, f10, f18, f19, h20, h11, go_sem, Nat.reduceEqDiff]
  have hml := moreN_length (first := first) (fun j hj => good_len (hgood j hj)) i hi
  by_cases hlt : i < gs.length
  · have hlt' : (i : Int) < gs.length := by omega
    simp only [hlt', decide_true, go_sem, Nat.reduceEqDiff]
    have hx4 := hx.gx g4 fun q hq h => hsep q hq h
    rw [ixn218 hx.ptr hlt]
    refine ld_gram agg26 sz26 hx4 hlt fun v hv => ?_
    have hvc := hv
    obtain ⟨Y, y, rfl, hy1, hy2⟩ := hvc
    refine do_alloc_of inf26 fun b5 w5 g5 hb5 h5 => ?_
    have m1 := hb1'.ne hb5
    have m4 := hb4'.ne hb5
    refine do_store sz26 rfl (by intro u hu; simp [Value.cells] at hu; rcases hu with rfl | rfl | rfl <;> rfl) h5 (by simp [Value.cells]) fun w6 g6 s6 h5 => ?_
    have g46 := gr_put g5 g6 hb5
    have hb1' := hb1'.gr g46
    have hb4' := hb4'.gr g46
    refine ⟨fun w' => Gr w6.drew w', Gr.refl _, ?_⟩
    have gd := gr_drew w6
    simp only [go_sem, Nat.reduceEqDiff]
    rw [ldS24 (fun w' hw' => ((hb4'.gr gd).gr hw').cell 2)]
    rw [rd_loadAgg agg26 sz26 (cs := [.int .i64 (gmn gs i).nons, .int .i64 (gmn gs i).toks, .slice Y (gmn gs i).rules.length y]) rfl (fun w' hw' j hj => by
      rw [add_plain, Nat.zero_add, ((h5.gr gd).gr hw').cell]
      exact List.getElem?_eq_getElem hj)]
    have g4d := gr_trans g46 gd
    refine l20Shift_c (hv.gr g4d) (hgood i hlt) fun X2 c2 ps2 w7 g7 o7 => ?_
    refine ⟨g7, ?_⟩
    obtain ⟨news, hr7, hN⟩ := o7.cells
    have g47 := gr_trans g4d g7
    have o47 := o4.gr g47
    have hl16 := good_len (hgood i hlt)
    have hl7 : (shiftRs (nextN gs i) (gmn gs i).rules).length = (gmn gs i).rules.length := by simp [shiftRs]
    refine do_append_rules u24 inf33 rfl (by decide) rfl hl7.symm o47 (Row.src hr7) hN (fun j hj => Row.mono (o7.own j hj) (Nat.le_trans hB (Nat.le_trans g4.size g4d.size))) o7.two (fun i' j hi' hj => blk_ne (fun q hq => (Row.ge (o4.own i' hi') hq).2) (fun q hq => (Row.ge (o7.own j hj) hq).1) g4d.size) (by omega) (by omega) (Nat.le_trans hB (Nat.le_trans g4.size g47.size)) fun X' c' w8 g8 o8 hmv => ?_
    have hX4 : blk X ≠ some b4 ∧ blk X ≠ some b1 ∧ blk X ≠ some b5 := by
      obtain ⟨cells, hr, _⟩ := o47.cells
      exact ⟨box_row (hb4'.gr (gr_trans gd g7)) hr (by decide), box_row (hb1'.gr (gr_trans gd g7)) hr (by decide), box_row (h5.gr (gr_trans gd g7)) hr (by decide)⟩
    have hb48 := (hb4'.gr (gr_trans gd g7)).kept g8 hX4.1
    have hb18 := (hb1'.gr (gr_trans gd g7)).kept g8 hX4.2.1
    have h58 := (h5.gr (gr_trans gd g7)).kept g8 hX4.2.2
    refine do_store sz24 rfl (by intro u hu; simp [Value.cells] at hu; subst hu; rfl) hb48 (by simp [Value.cells]) fun w9 g9 s9 hb49 => ?_
    have hb19 := hb18.put g9 n4
    have h59 := h58.put g9 (fun e => m4 e.symm)
    rw [ldB3 h59 rfl]
    simp only [go_sem, Nat.reduceEqDiff]
    have hG8 : Gx (fun q => blk X0 = some q) w w8 := (g4.after (gx_of_gr g47 fun _ => False) (fun _ h _ => h.elim)).after (gx_of g8 (D := fun q => blk X = some q) fun q hq => hq) fun q hq hlt => hfrom q hq hlt
    have hG9 : Gx (fun q => blk X0 = some q) w w9 := hG8.after (gx_of g9 (D := fun q => q = b4) fun q hq => by simpa using hq.symm) fun q hq hlt => by omega
    rw [i64_of (n := (i : Int) + 1) (by omega) (by omega)]
    refine ⟨⟨i + 1, X', c', joinP (moreN first gs i).length ps ps2, hlt, rfl, rfl, hG9, hb19, ?_, hfrom.moved hmv (Nat.le_trans g4.size g47.size), o8.put hb48 (by decide) (by decide) g9⟩, ?_⟩
    · simpa [moreN, hl7, Value.cells] using hb49
    · simp only [intOf]
      omega
  simp only [show ¬ (i : Int) < gs.length from by omega, decide_false, go_sem, Nat.reduceEqDiff]
  obtain rfl : i = gs.length := by omega
  rw [ldB_agg agg26 sz26 rfl hb4']
  have o4v : GramV (fun _ => True) w4 (.agg #[.int .i64 nons, .int .i64 toks, .slice X (moreN first gs gs.length).length e]) ⟨nons, toks, moreN first gs gs.length⟩ := by
    obtain ⟨cells, hr, hc⟩ := o4.cells
    exact ⟨X, e, rfl, (Row.cap hr).1, o4.read.mono fun _ _ => trivial⟩
  refine goodGrammar_c o4v fun w5 g5 => ?_
  have hb15 := hb1'.gr g5
  have hG5 : Gx (fun q => blk X0 = some q) w w5 := g4.after (gx_of_gr g5 fun _ => False) fun _ h _ => h.elim
  have hlt1 : w.heap.size ≤ b1 := hb1
  cases hgd : goodG ⟨nons, toks, moreN first gs gs.length⟩
  · simp only [Bool.not_false, go_sem, Nat.reduceEqDiff]
    rw [bd26 (cells := #[.int .i64 0, .int .i64 0, .slice none 0 0]) rfl]
    refine do_store sz26 rfl (by intro u hu; simp [Value.cells] at hu; rcases hu with rfl | rfl | rfl <;> rfl) hb15 (by simp [Value.cells]) fun w6 g6 s6 hb16 => ?_
    rw [rd_loadVar, ldB_agg agg26 sz26 rfl hb16]
    have := hk zeroGram w6 (hG5.after (gx_of g6 (D := fun q => q = b1) fun q hq => by simpa using hq.symm) fun q hq hlt => by omega)
    rw [hgd] at this
    exact this (by simp)
  · simp only [Bool.not_true, go_sem, Nat.reduceEqDiff]
    rw [ldB_agg agg26 sz26 rfl (hb4'.gr g5)]
    refine do_store sz26 rfl (by intro u hu; simp [Value.cells] at hu; rcases hu with rfl | rfl | rfl <;> rfl) hb15 (by simp [Value.cells]) fun w6 g6 s6 hb16 => ?_
    rw [rd_loadVar, ldB_agg agg26 sz26 rfl hb16]
    have := hk (.agg #[.int .i64 nons, .int .i64 toks, .slice X (moreN first gs gs.length).length e]) w6 (hG5.after (gx_of g6 (D := fun q => q = b1) fun q hq => by simpa using hq.symm) fun q hq hlt => by omega)
    rw [hgd] at this
    exact this (by simp only [if_true]; exact ⟨X, e, ps, rfl, (o4.gr g5).put hb15 (by decide) (by decide) g6⟩)
end Go.Proofs.Ytegcjkhebecgbaa

/- Contract: what comes again and again, by the reference. -/
set_option linter.unusedVariables false
set_option linter.unusedSimpArgs false
set_option maxRecDepth 100000
namespace Go.Sh
open Go
def starFirst : List RuleL := [(0, []), (0, [1, 0])]
def madeV (first : List RuleL) (nons toks : Int) (gs : List Gram) : Option Gram :=
  if goodG ⟨nons, toks, moreN first gs gs.length⟩ = true then some ⟨nons, toks, moreN first gs gs.length⟩ else none
def starV (g : Gram) : Option Gram := if goodG g = true then madeV starFirst (IntKind.i64.wrap (1 + g.nons)) g.toks [g] else none
/-- A grammar that may not be there, of the call's own. -/
def GramR (w : World) (B : Nat) (v : Value) : Option Gram → Prop
  | some m => GramO w B v m
  | none => v = zeroGram
theorem box_ne {w : World} {b b' t t' : Nat} {cs cs' : List Value} (h : Box w b cs t) (h' : Box w b' cs' t') (ht : t ≠ t') : b ≠ b' := by
  intro e
  subst e
  unfold Box at h h'
  rw [h] at h'
  simp at h'
  exact ht h'.2
theorem GramR.put {w w' : World} {B b t : Nat} {v : Value} {o : Option Gram} {cs : List Value} (h : GramR w B v o) (hb : Box w b cs t) (h1 : 33 ≠ t) (h2 : 3 ≠ t) (g : w.grownBy w' (some b)) : GramR w' B v o := by
  cases o with
  | none => exact h
  | some m =>
    obtain ⟨X, c, ps, e, ho⟩ := h
    exact ⟨X, c, ps, e, ho.put hb h1 h2 g⟩
theorem GramR.three {w : World} {B : Nat} {v : Value} {o : Option Gram} (h : GramR w B v o) : ∃ x y z, v = .agg #[x, y, z] ∧ x.oneCell' = true ∧ y.oneCell' = true ∧ z.oneCell' = true := by
  cases o with
  | none => exact ⟨_, _, _, h, rfl, rfl, rfl⟩
  | some m =>
    obtain ⟨X, c, ps, e, ho⟩ := h
    exact ⟨_, _, _, e, rfl, rfl, rfl⟩
end Go.Sh
namespace Go.Proofs.Ytegcjkhebecgbaa
open Go Go.Sh Go.RowKit

theorem specStarOf_c {F : Nat → Prop} {w : World} {v : Value} {gm : Gram} (hv : GramV F w v gm) (hF : ∀ q, F q → q < w.heap.size) {k : Value → World → Prop}
    (hk : ∀ v w', Gr w w' → GramR w' w.heap.size v (starV gm) → k (.tuple #[v, .bool (starV gm).isSome]) w') :
    CallK Try.prog 47 [v] k w := by
  obtain ⟨Y, c, rfl, hc, hy⟩ := hv
  refine enter47 ?_
  unfold S47
  refine do_box fun b1 w1 g1 hb1 h1 => ?_
  refine do_alloc_of inf26 fun b3 w2 g2 hb3 h3 => ?_
  have n3 := h1.ne hb3
  have h1 := h1.gr g2
  have q3 := Nat.le_trans g1.size hb3
  rw [ldB_agg agg26 sz26 rfl h1]
  have g := gr_trans g1 g2
  refine goodGrammar_c (gm := gm) ⟨Y, c, rfl, hc, hy.gr g⟩ fun w4 g4 => ?_
  have g := gr_trans g g4
  have h1 := h1.gr g4
  have h3 := h3.gr g4
  cases hg : goodG gm
  · simp only [Bool.not_false, go_sem, Nat.reduceEqDiff]
    rw [bd26 (cells := #[.int .i64 0, .int .i64 0, .slice none 0 0]) rfl]
    refine do_store sz26 rfl (by intro u hu; simp [Value.cells] at hu; rcases hu with rfl | rfl | rfl <;> rfl) h3 (by simp [Value.cells]) fun w5 g5 s5 h5 => ?_
    rw [rd_loadVar, ldB_agg agg26 sz26 rfl h5]
    have := hk zeroGram w5 (gr_put g g5 q3)
    simp only [starV, hg] at this
    exact this rfl
  simp only [Bool.not_true, go_sem, Nat.reduceEqDiff]
  rw [ldB3 h1 rfl]
  simp only [go_sem, Nat.reduceEqDiff]
  rw [ldB3 h1 rfl, bd33 (cells := #[.int .i64 0, .slice none 0 0]) rfl]
  refine bs27 [.int .i64 1, .int .i64 0] (by decide) (by simp [Instr.fill, madeCells, Value.cells, rng2]) rfl fun b5 w5 hb5 hb5' g5 hbox5 hrow5 => ?_
  rw [bd33 (cells := #[.int .i64 0, .slice (some ⟨b5, 0, none⟩) 2 2]) rfl]
  refine bs24 [.int .i64 0, .slice none 0 0, .int .i64 0, .slice (some ⟨b5, 0, none⟩) 2 2] (by decide) (by simp [Instr.fill, madeCells, Value.cells, rng4]) rfl fun b6 w6 hb6 hb6' g6 hbox6 hrow6 => ?_
  have h1 := h1.gr (gr_trans g5 g6)
  rw [ldB_agg agg26 sz26 rfl h1]
  refine bs218 [.int .i64 gm.nons, .int .i64 gm.toks, .slice Y gm.rules.length c] (by decide) (by simp [Instr.fill, madeCells, Value.cells, rng3]) rfl fun b7 w7 hb7 hb7' g7 hbox7 hrow7 => ?_
  have g57 := gr_trans g5 (gr_trans g6 g7)
  have g0 := gr_trans g g57
  have o5 : Own 3 w7 w.heap.size (some ⟨b5, 0, none⟩) 2 [1, 0] := Row.gr (Row.mono (hrow5 _ (Nat.le_refl _)) g.size) (gr_trans g6 g7)
  have hfirst : OwnR 33 3 w7 w.heap.size (some ⟨b6, 0, none⟩) 2 starFirst (fun j => if j = 0 then (none, 0) else (some ⟨b5, 0, none⟩, 2)) := by
    refine ⟨⟨_, Row.gr (Row.mono (hrow6 _ (Nat.le_refl _)) (gr_trans g g5).size) g7, fun j hj => ?_⟩, fun j hj => ?_, fun i j hi hj hij => ?_⟩
    · match j, hj with
      | 0, _ => exact ⟨rfl, rfl⟩
      | 1, _ => exact ⟨rfl, rfl⟩
    · match j, hj with
      | 0, _ => exact Row.nil _ _ _ _
      | 1, _ => exact o5
    · match i, j, hi, hj, hij with
      | 0, 1, _, _, _ => exact .inl rfl
      | 1, 0, _, _, _ => exact .inr (by simp [blk])
      | 0, 0, _, _, h => exact absurd rfl h
      | 1, 1, _, _, h => exact absurd rfl h
  have hlt6 : b6 < w6.heap.size := hb6'
  have hgs : GramsF (fun q => q ≠ b6) w7 (some ⟨b7, 0, none⟩) [gm] := by
    refine ⟨by simp, fun _ => rfl, fun _ => ?_, fun j hj => ?_⟩
    · show b7 ≠ b6
      omega
    · obtain rfl : j = 0 := by simpa using hj
      refine ⟨Y, c, ?_, ?_, ?_, hc, (hy.gr g0).mono fun q hq e => ?_⟩
      · exact hbox7.cell 0
      · exact hbox7.cell 1
      · exact hbox7.cell 2
      · have := hF q hq
        have := g.size
        have := g5.size
        omega
  refine l20Made_c (gs := [gm]) hfirst rfl (by decide) hgs (by simp) (fun j hj => by
    obtain rfl : j = 0 := by simpa using hj
    exact hg) (fun q hq e => hq (by simpa [blk] using e.symm)) g0.size fun v w8 g8 hres => ?_
  have h3 := (h3.gr g57)
  have hb63 : b3 ≠ b6 := box_ne h3 (hbox6.gr g7) (by decide)
  have h38 := h3.gx g8 (by simpa [blk] using fun e => hb63 e.symm)
  have g08 : Gr w w8 := Gx.gr_after g0 g8 fun q hq => by
    have : b6 = q := by simpa [blk] using hq
    have := g.size
    have := g5.size
    omega
  have hres' : GramR w8 w.heap.size v (starV gm) ∧ goodG ⟨IntKind.i64.wrap (1 + gm.nons), gm.toks, moreN starFirst [gm] [gm].length⟩ = (starV gm).isSome := by
    unfold starV madeV
    rw [if_pos hg]
    split at hres
    · rename_i hh
      rw [if_pos hh, hh]
      exact ⟨hres, rfl⟩
    · rename_i hh
      rw [if_neg hh]
      exact ⟨hres, by simpa using hh⟩
  rw [hres'.2]
  obtain ⟨x, y, z, rfl, hx1, hy1, hz1⟩ := hres'.1.three
  simp only [go_sem, Nat.reduceEqDiff]
  refine do_store sz26 rfl (by intro u hu; simp [Value.cells] at hu; rcases hu with rfl | rfl | rfl <;> assumption) h38 (by simp [Value.cells]) fun w9 g9 s9 h9 => ?_
  rw [rd_loadVar, ldB_agg agg26 sz26 rfl h9]
  exact hk _ w9 (gr_put g08 g9 q3) (hres'.1.put h38 (by decide) (by decide) g9)
end Go.Proofs.Ytegcjkhebecgbaa

/- Contract: a copy of a grammar by the program. -/
set_option linter.unusedVariables false
set_option linter.unusedSimpArgs false
set_option maxRecDepth 100000
namespace Go.Sh
open Go
theorem good_rule {g : Gram} (hg : goodG g = true) : ∀ i, i < g.rules.length → (rul g.rules i).2.length ≤ 4 := fun i hi => by
  simp only [goodG, Bool.and_eq_true, List.all_eq_true] at hg
  have := hg.2 i (List.mem_range.2 hi)
  simp only [goodR, Bool.and_eq_true, decide_eq_true_eq] at this
  exact this.1.1.2
end Go.Sh
namespace Go.Proofs.Ytegcjkhebecgbaa
open Go Go.Sh Go.RowKit

theorem copyGrammar_c {F : Nat → Prop} {w : World} {v : Value} {gm : Gram} (hv : GramV F w v gm) (hg : goodG gm = true) {k : Value → World → Prop}
    (hk : ∀ v w', Gr w w' → GramO w' w.heap.size v gm → k v w') : CallK Try.prog 234 [v] k w := by
  obtain ⟨Y, c, rfl, hc, hy⟩ := hv
  have hgl := good_len hg
  have hgr := good_rule hg
  refine enter234 ?_
  unfold S234
  refine do_box fun b1 w1 g1 hb1 h1 => ?_
  refine do_alloc_of inf26 fun b3 w2 g2 hb3 h3 => ?_
  have n3 := h1.ne hb3
  have h1 := h1.gr g2
  have q3 := Nat.le_trans g1.size hb3
  simp only [go_sem, Nat.reduceEqDiff]
  rw [ldB3 h1 rfl, ldB3 h1 rfl]
  rw [bd26 (cells := #[.int .i64 gm.nons, .int .i64 gm.toks, .slice none 0 0]) rfl]
  refine do_alloc_of inf26 fun b4 w4 g4 hb4 h4 => ?_
  have n4 := h3.ne hb4
  have n14 := h1.ne hb4
  have q4 := Nat.le_trans (gr_trans g1 g2).size hb4
  refine do_store sz26 rfl (by intro u hu; simp [Value.cells] at hu; rcases hu with rfl | rfl | rfl <;> rfl) h4 (by simp [Value.cells]) fun w5 g5 s5 h4 => ?_
  have h1 := (h1.gr g4).put g5 n14
  have h3 := (h3.gr g4).put g5 n4
  have g := gr_put (gr_trans (gr_trans g1 g2) g4) g5 q4
  rw [ldB24 h1 rfl]
  simp only [go_sem, Nat.reduceEqDiff]
  refine ⟨fun f w' => ∃ (i : Nat) (X : Option Addr) (e : Nat) (ps : Nat → Option Addr × Nat), i ≤ gm.rules.length ∧ f 14 = .int .i64 i ∧ Gr w w' ∧ Box w' b3 [.int .i64 0, .int .i64 0, .slice none 0 0] 26 ∧ Box w' b4 [.int .i64 gm.nons, .int .i64 gm.toks, .slice X i e] 26 ∧ OwnR 33 3 w' w.heap.size X e (gm.rules.take i) ps, fun f _ => gm.rules.length - (intOf (f 14)).toNat,
    ⟨0, none, 0, fun _ => (none, 0), Nat.zero_le _, rfl, g, h3, h4, ⟨[], Row.nil _ _ _ _, fun j hj => by simp at hj⟩, fun j hj => by simp at hj, fun i j hi => by simp at hi⟩, ?_⟩
  rintro f w6 hag ⟨i, X, e, ps, hi, h14, g6, hb3', hb4', o6⟩
  have f2 : f 2 = .pointer (some ⟨b3, 0, none⟩) := hag 2 (by decide)
  have f3 : f 3 = .pointer (some ⟨b4, 0, none⟩) := hag 3 (by decide)
  have f12 : f 12 = .slice Y gm.rules.length c := hag 12 (by decide)
  have f13 : f 13 = .int .i64 gm.rules.length := hag 13 (by decide)
  have hlen : (gm.rules.take i).length = i := by simp; omega
  simp only [f2, f3, f12, f13, h14, go_sem, Nat.reduceEqDiff]
  by_cases hlt : i < gm.rules.length
  rotate_left
  · simp only [show ¬ (i : Int) < gm.rules.length from by omega, decide_false, go_sem, Nat.reduceEqDiff]
    obtain rfl : i = gm.rules.length := by omega
    rw [List.take_length] at o6
    rw [ldB_agg agg26 sz26 rfl hb4']
    refine do_store sz26 rfl (by intro u hu; simp [Value.cells] at hu; rcases hu with rfl | rfl | rfl <;> rfl) hb3' (by simp [Value.cells]) fun w7 g7 s7 h7 => ?_
    rw [rd_loadVar, ldB_agg agg26 sz26 rfl h7]
    exact hk _ w7 (gr_put g6 g7 q3) ⟨X, e, ps, rfl, o6.put hb3' (by decide) (by decide) g7⟩
  have hlt' : (i : Int) < gm.rules.length := by omega
  simp only [hlt', decide_true, go_sem, Nat.reduceEqDiff]
  rw [ixn24 hy.ptr hlt]
  refine ld_rule agg33 sz33 (hy.gr g6) hlt fun v hv => ?_
  obtain ⟨Z, z, rfl, hz0, hz⟩ := hv
  have hz4 := hgr i hlt
  refine do_alloc_of inf33 fun b7 w7 g7 hb7 h7 => ?_
  refine do_store sz33 rfl (by intro u hu; simp [Value.cells] at hu; rcases hu with rfl | rfl <;> rfl) h7 (by simp [Value.cells]) fun w8 g8 s8 h8 => ?_
  have g68 := gr_put g7 g8 hb7
  have gd := gr_drew w8
  have g6d := gr_trans g68 gd
  refine ⟨fun w' => Gr w8.drew w', Gr.refl _, ?_⟩
  simp only [go_sem, Nat.reduceEqDiff]
  rw [ldS24 (fun w' hw' => ((hb4'.gr g6d).gr hw').cell 2), ldS3 (fun w' hw' => ((h8.gr gd).gr hw').cell 0), ldS27 (fun w' hw' => ((h8.gr gd).gr hw').cell 1)]
  refine bs27 [] (by decide) (by simp [Instr.fill, madeCells]) rfl fun b9 w9 hb9 hb9' g9 hbox9 hrow9 => ?_
  refine ⟨g9, ?_⟩
  refine apI (xs := []) (B := w8.drew.heap.size) (hrow9 _ (Nat.le_refl _)) (hz.is.gr (gr_trans g6d g9)) rfl rfl (by simp; omega) g9.size fun U u w10 o10 g10 => ?_
  rw [List.nil_append] at o10 ⊢
  have gd10 : Gr w8.drew w10 := gr_put g9 g10 hb9
  refine ⟨gd10, ?_⟩
  rw [bd33 (cells := #[.int .i64 (rul gm.rules i).1, .slice U (rul gm.rules i).2.length u]) rfl]
  refine bs24 [.int .i64 (rul gm.rules i).1, .slice U (rul gm.rules i).2.length u] (by decide) (by simp [Instr.fill, madeCells, Value.cells, rng2]) rfl fun b11 w11 hb11 hb11' g11 hbox11 hrow11 => ?_
  have gd11 := gr_trans gd10 g11
  refine ⟨gd11, ?_⟩
  have g611 := gr_trans g6d gd11
  have gw11 := gr_trans g6 g611
  have hN : RCells [.int .i64 (rul gm.rules i).1, .slice U (rul gm.rules i).2.length u] [rul gm.rules i] (fun _ => (U, u)) := ⟨rfl, fun j hj => by
    obtain rfl : j = 0 := by simpa using hj
    exact ⟨rfl, rfl⟩⟩
  have hX4 : blk X ≠ some b4 ∧ blk X ≠ some b3 := by
    obtain ⟨cells, hr, _⟩ := (o6.gr g611).cells
    exact ⟨box_row (hb4'.gr g611) hr (by decide), box_row (hb3'.gr g611) hr (by decide)⟩
  refine do_append_rules (ps := ps) (rs := gm.rules.take i) (qs := [rul gm.rules i]) u24 inf33 rfl (by decide) hlen.symm rfl (o6.gr g611) (Row.src (hrow11 _ (Nat.le_refl _))) hN (fun j hj => ?_) (fun i j hi hj hij => ?_) (fun i' j hi' hj => ?_) (by rw [hlen]; simp; omega) (by rw [hlen]; simp; omega) gw11.size fun X' c' w12 g12 o12 _ => ?_
  · obtain rfl : j = 0 := by simpa using hj
    exact Row.mono (Row.gr o10 g11) (gr_trans g6 g6d).size
  · simp at hi hj
    omega
  · exact blk_ne (fun q hq => (Row.ge (o6.own i' hi') hq).2) (fun q hq => (Row.ge o10 hq).1) g6d.size
  have hb412 := (hb4'.gr g611).kept g12 hX4.1
  have hb312 := (hb3'.gr g611).kept g12 hX4.2
  refine do_store sz24 rfl (by intro u hu; simp [Value.cells] at hu; subst hu; rfl) hb412 (by simp [Value.cells]) fun w13 g13 s13 hb413 => ?_
  have gw12 : Gr w w12 := gr_mod gw11 g12 fun q hq => by
    obtain ⟨cells, hr, _⟩ := o6.row
    exact (Row.ge hr hq).1
  rw [i64_of (by omega) (by omega)]
  refine ⟨⟨i + 1, X', c', _, hlt, rfl, gr_put gw12 g13 q4, hb312.put g13 n4, by simpa [Value.cells] using hb413, by
    rw [take_rul hlt]
    exact o12.put hb412 (by decide) (by decide) g13⟩, ?_⟩
  simp only [intOf]
  omega
end Go.Proofs.Ytegcjkhebecgbaa

/- Contract: grammars set beside each other by the program. -/
set_option linter.unusedVariables false
set_option linter.unusedSimpArgs false
set_option maxRecDepth 100000
namespace Go.Sh
open Go
def rgt (rl : List (List Int)) (j : Nat) : List Int := rl.getD j []
/-- A slice of slices of ints that is read. -/
structure Intss (w : World) (X : Option Addr) (rl : List (List Int)) : Prop where
  le : rl.length ≤ 9223372036854775807
  ptr : 0 < rl.length → X = some (ad X)
  row : ∀ j, j < rl.length → ∃ Y c, w.cell? ((ad X).add j) = some (.slice Y (rgt rl j).length c) ∧ (rgt rl j).length ≤ c ∧ Ints w Y (rgt rl j)
theorem Intss.gr {w w' : World} {X : Option Addr} {rl : List (List Int)} (h : Intss w X rl) (g : Gr w w') : Intss w' X rl := ⟨h.le, h.ptr, fun j hj => by
  obtain ⟨Y, c, h1, h2, h3⟩ := h.row j hj
  exact ⟨Y, c, g.cell h1, h2, h3.gr g⟩⟩
def firsts (rl : List (List Int)) : List RuleL := rl.map fun r => (0, r)
theorem firsts_snoc {rl : List (List Int)} {i : Nat} (h : i < rl.length) : firsts (rl.take (i + 1)) = firsts (rl.take i) ++ [(0, rgt rl i)] := by
  unfold firsts rgt
  rw [List.take_succ_eq_append_getElem h, List.map_append]
  simp [List.getD_eq_getElem?_getD, h]
theorem OwnR.inner {e1 e2 : Nat} {w w' : World} {B B' c n d : Nat} {X U : Option Addr} {rs : List RuleL} {ps : Nat → Option Addr × Nat} {xs : List Value} (h : OwnR e1 e2 w B X c rs ps) (hu : Row w B' e2 1 U n d xs) (he : e1 ≠ e2) (hne : ∀ l, l < rs.length → blk (ps l).1 = none ∨ blk (ps l).1 ≠ blk U) (g : w.grownBy w' (blk U)) : OwnR e1 e2 w' B X c rs ps := by
  obtain ⟨⟨cells, hr, hc⟩, ho, ht⟩ := h
  exact ⟨⟨cells, Row.kept hr g (row_ne hr hu he), hc⟩, fun j hj => Row.kept (ho j hj) g (hne j hj), ht⟩
theorem OwnR.congr {e1 e2 : Nat} {w : World} {B c : Nat} {X : Option Addr} {rs : List RuleL} {ps qs : Nat → Option Addr × Nat} (h : OwnR e1 e2 w B X c rs ps) (he : ∀ j, j < rs.length → qs j = ps j) : OwnR e1 e2 w B X c rs qs := by
  obtain ⟨⟨cells, hr, hc⟩, ho, ht⟩ := h
  refine ⟨⟨cells, hr, fun j hj => by rw [he j hj]; exact hc j hj⟩, fun j hj => by rw [he j hj]; exact ho j hj, fun i j hi hj hij => ?_⟩
  rw [he i hi, he j hj]
  exact ht i j hi hj hij
theorem take_keep {xs ys : List Int} {i : Nat} (h : i < ys.length) (hl : xs.length = ys.length) (e : xs.getD i 0 = ys.getD i 0) : xs.take i ++ ys.drop i = xs.take (i + 1) ++ ys.drop (i + 1) := by
  rw [take_snoc (by omega), List.drop_eq_getElem_cons h, e]
  simp [List.getD_eq_getElem?_getD, h]
theorem getD_map {xs : List Int} {i : Nat} {p : Int → Int} (h : i < xs.length) : (xs.map p).getD i 0 = p (xs.getD i 0) := by
  simp [List.getD_eq_getElem?_getD, h]
theorem getD_appH {xs ys : List Int} {m : Nat} (h : m < ys.length) (hl : xs.length = ys.length) : (xs.take m ++ ys.drop m).getD m 0 = ys.getD m 0 := by
  have : (xs.take m).length = m := by simp; omega
  simp [List.getD_eq_getElem?_getD, List.getElem?_append_right (show (xs.take m).length ≤ m by omega), this]
theorem blk_sym {U V : Option Addr} (h : blk U = none ∨ blk U ≠ blk V) : blk V = none ∨ blk V ≠ blk U := by
  cases hq : blk V with
  | none => exact .inl rfl
  | some q =>
    refine .inr fun e => ?_
    rcases h with h | h
    · rw [h] at e; cases e
    · exact h (by rw [hq, e])
theorem Row.putb {w w' : World} {B e sz n c b t : Nat} {X : Option Addr} {cells cs : List Value} (h : Row w B e sz X n c cells) (hb : Box w b cs t) (he : e ≠ t) (g : w.grownBy w' (some b)) : Row w' B e sz X n c cells := Row.kept h g (.inr (box_row hb h he))
end Go.Sh
namespace Go.Proofs.Ytegcjkhebecgbaa
open Go Go.Sh Go.RowKit

theorem beside_c {w : World} {cr d : Nat} {R G : Option Addr} {rl : List (List Int)} {gs : List Gram} (hr : Intss w R rl) (hrl : rl.length ≤ 4) (hr4 : ∀ j, j < rl.length → (rgt rl j).length ≤ 4)
    (hx : GramsF (fun _ => True) w G gs) (hg0 : 0 < gs.length) (hgl : gs.length ≤ 4) (hgood : ∀ j, j < gs.length → goodG (gmn gs j) = true) {k : Value → World → Prop}
    (hk : ∀ v w', Gr w w' → GramR w' w.heap.size v (madeV (firsts rl) (nextN gs gs.length) (gmn gs 0).toks gs) → k (.tuple #[v, .bool (madeV (firsts rl) (nextN gs gs.length) (gmn gs 0).toks gs).isSome]) w') :
    CallK Try.prog 169 [.slice R rl.length cr, .slice G gs.length d] k w := by
  refine enter169 ?_
  unfold S169
  refine do_alloc_of inf26 fun b1 w1 g1 hb1 h1 => ?_
  obtain ⟨G0, hG0⟩ : ∃ a, G = some a := ⟨_, hx.ptr hg0⟩
  rw [ix218_0 hx.ptr (by omega), fa26_1, add_add]
  obtain ⟨Y0, c0, t0, t1, t2, t3, t4⟩ := hx.row 0 hg0
  rw [ld3 (a := (ad G).add (0 + 1)) (v := .int .i64 (gmn gs 0).toks) (g1.cell t1)]
  rw [bd26 (cells := #[.int .i64 1, .int .i64 (gmn gs 0).toks, .slice none 0 0]) rfl]
  refine do_alloc_of inf26 fun b6 w2 g2 hb6 h6 => ?_
  have n6 := h1.ne hb6
  have q6 := Nat.le_trans g1.size hb6
  refine do_store sz26 rfl (by intro u hu; simp [Value.cells] at hu; rcases hu with rfl | rfl | rfl <;> rfl) h6 (by simp [Value.cells]) fun w3 g3 s3 h6 => ?_
  have h1 := (h1.gr g2).put g3 n6
  have g := gr_put (gr_trans g1 g2) g3 q6
  simp only [go_sem, Nat.reduceEqDiff]
  refine ⟨fun f w' => ∃ (i : Nat) (X : Option Addr) (e : Nat) (ps : Nat → Option Addr × Nat), i ≤ rl.length ∧ f 22 = .int .i64 i ∧ Gr w w' ∧ Box w' b1 [.int .i64 0, .int .i64 0, .slice none 0 0] 26 ∧ Box w' b6 [.int .i64 1, .int .i64 (gmn gs 0).toks, .slice X i e] 26 ∧ OwnR 33 3 w' w.heap.size X e (firsts (rl.take i)) ps, fun f _ => rl.length - (intOf (f 22)).toNat,
    ⟨0, none, 0, fun _ => (none, 0), Nat.zero_le _, rfl, g, h1, h6, ⟨[], Row.nil _ _ _ _, fun j hj => by simp [firsts] at hj⟩, fun j hj => by simp [firsts] at hj, fun i j hi => by simp [firsts] at hi⟩, ?_⟩
  rintro f w4 hag ⟨i, X, e, ps, hi, h22, g4, hb1', hb6', o4⟩
  have f1 : f 1 = .slice G gs.length d := hag 1 (by decide)
  have f4 : f 4 = .pointer (some ⟨b1, 0, none⟩) := hag 4 (by decide)
  have f6 : f 6 = .pointer (some ⟨b6, 0, none⟩) := hag 6 (by decide)
  have f20 : f 20 = .slice R rl.length cr := hag 20 (by decide)
  have f21 : f 21 = .int .i64 rl.length := hag 21 (by decide)
  simp only [f1, f4, f6, f20, f21, h22, go_sem, Nat.reduceEqDiff]
  by_cases hlt : i < rl.length
  · have hlt' : (i : Int) < rl.length := by omega
    simp only [hlt', decide_true, go_sem, Nat.reduceEqDiff]
    obtain ⟨Z, z, hz1, hz2, hz⟩ := (hr.gr g4).row i hlt
    have hz4 := hr4 i hlt
    rw [ixn35 hr.ptr hlt]
    rw [ld27 (v := .slice Z (rgt rl i).length z) (by simpa using hz1)]
    have gd := gr_drew w4
    refine ⟨fun w' => Gr w4.drew w', Gr.refl _, ?_⟩
    simp only [go_sem, Nat.reduceEqDiff]
    rw [ldS24 (fun w' hw' => ((hb6'.gr gd).gr hw').cell 2)]
    have hlen : (firsts (rl.take i)).length = i := by simp [firsts]; omega
    refine bs27 [] (by decide) (by simp [Instr.fill, madeCells]) rfl fun b9 w9 hb9 hb9' g9 hbox9 hrow9 => ?_
    refine ⟨g9, ?_⟩
    refine apI (xs := []) (B := w4.drew.heap.size) (hrow9 _ (Nat.le_refl _)) (hz.gr (gr_trans gd g9)) rfl rfl (by simp; omega) g9.size fun U u w10 o10 g10 => ?_
    rw [List.nil_append] at o10 ⊢
    have gd10 : Gr w4.drew w10 := gr_put g9 g10 hb9
    refine ⟨gd10, ?_⟩
    rw [bd33 (cells := #[.int .i64 0, .slice U (rgt rl i).length u]) rfl]
    refine bs24 [.int .i64 0, .slice U (rgt rl i).length u] (by decide) (by simp [Instr.fill, madeCells, Value.cells, rng2]) rfl fun b11 w11 hb11 hb11' g11 hbox11 hrow11 => ?_
    have gd11 := gr_trans gd10 g11
    refine ⟨gd11, ?_⟩
    have g411 := gr_trans gd gd11
    have gw11 := gr_trans g4 g411
    have hN : RCells [.int .i64 0, .slice U (rgt rl i).length u] [(0, rgt rl i)] (fun _ => (U, u)) := ⟨rfl, fun j hj => by
      obtain rfl : j = 0 := by simpa using hj
      exact ⟨rfl, rfl⟩⟩
    have hX4 : blk X ≠ some b6 ∧ blk X ≠ some b1 := by
      obtain ⟨cells, hr, _⟩ := (o4.gr g411).cells
      exact ⟨box_row (hb6'.gr g411) hr (by decide), box_row (hb1'.gr g411) hr (by decide)⟩
    refine do_append_rules (ps := ps) (rs := firsts (rl.take i)) (qs := [(0, rgt rl i)]) u24 inf33 rfl (by decide) hlen.symm rfl (o4.gr g411) (Row.src (hrow11 _ (Nat.le_refl _))) hN (fun j hj => ?_) (fun i j hi hj hij => ?_) (fun i' j hi' hj => ?_) (by rw [hlen]; simp; omega) (by rw [hlen]; simp; omega) gw11.size fun X' c' w12 g12 o12 _ => ?_
    · obtain rfl : j = 0 := by simpa using hj
      exact Row.mono (Row.gr o10 g11) (gr_trans g4 gd).size
    · simp at hi hj
      omega
    · exact blk_ne (fun q hq => (Row.ge (o4.own i' hi') hq).2) (fun q hq => (Row.ge o10 hq).1) gd.size
    have hb612 := (hb6'.gr g411).kept g12 hX4.1
    have hb112 := (hb1'.gr g411).kept g12 hX4.2
    refine do_store sz24 rfl (by intro u hu; simp [Value.cells] at hu; subst hu; rfl) hb612 (by simp [Value.cells]) fun w13 g13 s13 hb613 => ?_
    have gw12 : Gr w w12 := gr_mod gw11 g12 fun q hq => by
      obtain ⟨cells, hr, _⟩ := o4.row
      exact (Row.ge hr hq).1
    rw [i64_of (by omega) (by omega)]
    refine ⟨⟨i + 1, X', c', _, hlt, rfl, gr_put gw12 g13 q6, hb112.put g13 n6, by simpa [Value.cells] using hb613, by
      rw [firsts_snoc hlt]
      exact o12.put hb612 (by decide) (by decide) g13⟩, ?_⟩
    simp only [intOf]
    omega
  simp only [show ¬ (i : Int) < rl.length from by omega, decide_false, go_sem, Nat.reduceEqDiff]
  obtain rfl : i = rl.length := by omega
  rw [List.take_length] at o4
  have hfl : (firsts rl).length = rl.length := by simp [firsts]
  refine ⟨fun f w' => ∃ (i : Nat) (X : Option Addr) (e : Nat) (ps : Nat → Option Addr × Nat), i ≤ gs.length ∧ f 38 = .int .i64 i ∧ Gr w w' ∧ Box w' b1 [.int .i64 0, .int .i64 0, .slice none 0 0] 26 ∧ Box w' b6 [.int .i64 (nextN gs i), .int .i64 (gmn gs 0).toks, .slice X (moreN (firsts rl) gs i).length e] 26 ∧ OwnR 33 3 w' w.heap.size X e (moreN (firsts rl) gs i) ps, fun f _ => gs.length - (intOf (f 38)).toNat,
    ⟨0, X, e, ps, Nat.zero_le _, rfl, g4, hb1', by simpa [moreN, nextN, hfl] using hb6', o4⟩, ?_⟩
  rintro f2 w5 hag2 ⟨i, X, e, ps, hi, h38, g5, hb15, hb65, o5⟩
  have e4 : f2 4 = .pointer (some ⟨b1, 0, none⟩) := (hag2 4 (by decide)).trans f4
  have e6 : f2 6 = .pointer (some ⟨b6, 0, none⟩) := (hag2 6 (by decide)).trans f6
  have e36 : f2 36 = .slice G gs.length d := hag2 36 (by decide)
  have e37 : f2 37 = .int .i64 gs.length := hag2 37 (by decide)
  have hml := moreN_length (first := firsts rl) (fun j hj => good_len (hgood j hj)) i hi
  simp only [e4, e6, e36, e37, h38, go_sem, Nat.reduceEqDiff]
  by_cases hlt : i < gs.length
  rotate_left
  · simp only [show ¬ (i : Int) < gs.length from by omega, decide_false, go_sem, Nat.reduceEqDiff]
    obtain rfl : i = gs.length := by omega
    rw [ldB_agg agg26 sz26 rfl hb65]
    have o5v : GramV (fun _ => True) w5 (.agg #[.int .i64 (nextN gs gs.length), .int .i64 (gmn gs 0).toks, .slice X (moreN (firsts rl) gs gs.length).length e]) ⟨nextN gs gs.length, (gmn gs 0).toks, moreN (firsts rl) gs gs.length⟩ := by
      obtain ⟨cells, hr, hc⟩ := o5.cells
      exact ⟨X, e, rfl, (Row.cap hr).1, o5.read.mono fun _ _ => trivial⟩
    refine isGrammar_c o5v fun w6 g6 => ?_
    have hb16 := hb15.gr g6
    have g06 := gr_trans g5 g6
    unfold madeV at hk
    cases hgd : goodG ⟨nextN gs gs.length, (gmn gs 0).toks, moreN (firsts rl) gs gs.length⟩
    · simp only [Bool.not_false, go_sem, Nat.reduceEqDiff]
      rw [bd26 (cells := #[.int .i64 0, .int .i64 0, .slice none 0 0]) rfl]
      refine do_store sz26 rfl (by intro u hu; simp [Value.cells] at hu; rcases hu with rfl | rfl | rfl <;> rfl) hb16 (by simp [Value.cells]) fun w7 g7 s7 hb17 => ?_
      rw [rd_loadVar, ldB_agg agg26 sz26 rfl hb17]
      have := hk zeroGram w7 (gr_put g06 g7 hb1)
      rw [if_neg (by rw [hgd]; decide)] at this
      exact this rfl
    · simp only [Bool.not_true, go_sem, Nat.reduceEqDiff]
      rw [ldB_agg agg26 sz26 rfl (hb65.gr g6)]
      refine do_store sz26 rfl (by intro u hu; simp [Value.cells] at hu; rcases hu with rfl | rfl | rfl <;> rfl) hb16 (by simp [Value.cells]) fun w7 g7 s7 hb17 => ?_
      rw [rd_loadVar, ldB_agg agg26 sz26 rfl hb17]
      have := hk (.agg #[.int .i64 (nextN gs gs.length), .int .i64 (gmn gs 0).toks, .slice X (moreN (firsts rl) gs gs.length).length e]) w7 (gr_put g06 g7 hb1)
      rw [if_pos hgd] at this
      exact this ⟨X, e, ps, rfl, (o5.gr g6).put hb16 (by decide) (by decide) g7⟩
  have hlt' : (i : Int) < gs.length := by omega
  simp only [hlt', decide_true, go_sem, Nat.reduceEqDiff]
  rw [ixn218 hx.ptr hlt]
  refine ld_gram agg26 sz26 (hx.gx (gx_of_gr g5 fun _ => False) fun _ _ h => h) hlt fun v hv => ?_
  obtain ⟨Y, y, rfl, hy1, hy2⟩ := hv
  have hgl := good_len (hgood i hlt)
  have hgr := good_rule (hgood i hlt)
  refine do_alloc_of inf26 fun b10 w6 g6 hb10 h10 => ?_
  have m1 := hb15.ne hb10
  have m6 := hb65.ne hb10
  refine do_store sz26 rfl (by intro u hu; simp [Value.cells] at hu; rcases hu with rfl | rfl | rfl <;> rfl) h10 (by simp [Value.cells]) fun w7 g7 s7 h10 => ?_
  have g57 := gr_put g6 g7 hb10
  rw [ldB_agg agg26 sz26 rfl h10]
  refine copyGrammar_c (gm := gmn gs i) ⟨Y, y, rfl, hy1, hy2.gr g57⟩ (hgood i hlt) fun v w8 g8 oc => ?_
  obtain ⟨Xc, cc, psc, rfl, oc⟩ := oc
  rw [fd26_2]
  simp only [go_sem, Nat.reduceEqDiff]
  have g58 := gr_trans g57 g8
  obtain ⟨cellsc, hrc, hcc⟩ := oc.cells
  have hXc : blk X = none ∨ blk X ≠ blk Xc := by
    obtain ⟨cells, hr, _⟩ := o5.cells
    exact blk_ne (fun q hq => (Row.ge hr hq).2) (fun q hq => (Row.ge hrc hq).1) g57.size
  refine ⟨fun f w' => ∃ (j : Nat) (X' : Option Addr) (e' : Nat) (pm : Nat → Option Addr × Nat), j ≤ (gmn gs i).rules.length ∧ f 46 = .int .i64 j ∧ Gr w w' ∧ w5.heap.size ≤ w'.heap.size ∧ Box w' b1 [.int .i64 0, .int .i64 0, .slice none 0 0] 26 ∧ Box w' b6 [.int .i64 (nextN gs i), .int .i64 (gmn gs 0).toks, .slice X' ((moreN (firsts rl) gs i).length + j) e'] 26 ∧ Box w' b10 [.int .i64 (gmn gs i).nons, .int .i64 (gmn gs i).toks, .slice Y (gmn gs i).rules.length y] 26 ∧ OwnR 33 3 w' w.heap.size X' e' (moreN (firsts rl) gs i ++ shiftRs (nextN gs i) ((gmn gs i).rules.take j)) pm ∧
      (∀ l, l < (moreN (firsts rl) gs i).length → pm l = ps l) ∧ (∀ l, l < j → pm ((moreN (firsts rl) gs i).length + l) = psc l) ∧ Row w' w7.heap.size 33 2 Xc (gmn gs i).rules.length cc cellsc ∧ (∀ l, j ≤ l → l < (gmn gs i).rules.length → Own 3 w' w7.heap.size (psc l).1 (psc l).2 (rul (gmn gs i).rules l).2) ∧ (blk X' = none ∨ blk X' ≠ blk Xc), fun f _ => (gmn gs i).rules.length - (intOf (f 46)).toNat,
    ⟨0, X, e, ps, Nat.zero_le _, rfl, gr_trans g5 g58, g58.size, hb15.gr g58, hb65.gr g58, h10.gr g8, by simpa [shiftRs] using o5.gr g58, fun _ _ => rfl, fun l hl => absurd hl (Nat.not_lt_zero l), hrc, fun l _ hl => oc.own l hl, hXc⟩, ?_⟩
  rintro f3 w9 hag3 ⟨j, X3, e3, pm, hj, h46, g9, hs9, hb19, hb69, hb109, o9, hpm1, hpm2, hrc9, hown9, hsep9⟩
  have d4 : f3 4 = .pointer (some ⟨b1, 0, none⟩) := (hag3 4 (by decide)).trans e4
  have d6 : f3 6 = .pointer (some ⟨b6, 0, none⟩) := (hag3 6 (by decide)).trans e6
  have d10 : f3 10 = .pointer (some ⟨b10, 0, none⟩) := hag3 10 (by decide)
  have d38 : f3 38 = .int .i64 i := (hag3 38 (by decide)).trans h38
  have d44 : f3 44 = .slice Xc (gmn gs i).rules.length cc := hag3 44 (by decide)
  have d45 : f3 45 = .int .i64 (gmn gs i).rules.length := hag3 45 (by decide)
  have hlenj : (shiftRs (nextN gs i) ((gmn gs i).rules.take j)).length = j := by simp [shiftRs]; omega
  simp only [d4, d6, d10, d38, d44, d45, h46, go_sem, Nat.reduceEqDiff]
  by_cases hlt3 : j < (gmn gs i).rules.length
  rotate_left
  · simp only [show ¬ (j : Int) < (gmn gs i).rules.length from by omega, decide_false, go_sem, Nat.reduceEqDiff]
    obtain rfl : j = (gmn gs i).rules.length := by omega
    rw [List.take_length] at o9
    rw [ldB3 hb69 rfl, ldB3 hb109 rfl]
    simp only [go_sem, Nat.reduceEqDiff]
    refine do_store sz3 rfl (by intro u hu; simp [Value.cells] at hu; subst hu; rfl) hb69 (by simp [Value.cells]) fun w10 g10 s10 h10 => ?_
    rw [i64_of (n := (i : Int) + 1) (by omega) (by omega)]
    refine ⟨⟨i + 1, X3, e3, pm, hlt, rfl, gr_put g9 g10 q6, hb19.put g10 n6, ?_, o9.put hb69 (by decide) (by decide) g10⟩, ?_⟩
    · have hll : (moreN (firsts rl) gs (i + 1)).length = (moreN (firsts rl) gs i).length + (gmn gs i).rules.length := by simp [moreN, shiftRs]
      rw [hll]
      simpa [nextN, Value.cells] using h10
    · simp only [intOf]
      omega
  have hlt3' : (j : Int) < (gmn gs i).rules.length := by omega
  simp only [hlt3', decide_true, go_sem, Nat.reduceEqDiff]
  rw [ixn24 (fun h => Row.ptr hrc9 h) hlt3]
  obtain ⟨hc0, hc1⟩ := hcc.2 j hlt3
  rw [ld_agg agg33 sz33 (cs := [.int .i64 (rul (gmn gs i).rules j).1, .slice (psc j).1 (rul (gmn gs i).rules j).2.length (psc j).2]) rfl (fun l hl => by
    match l, hl with
    | 0, _ => rw [add_add, Nat.add_zero]; exact (Row.src hrc9).cell _ _ hc0
    | 1, _ => rw [add_add]; exact (Row.src hrc9).cell _ _ hc1)]
  refine do_alloc_of inf33 fun b12 w10 g10 hb12 h12 => ?_
  have m612 := hb69.ne hb12
  refine do_store sz33 rfl (by intro u hu; simp [Value.cells] at hu; rcases hu with rfl | rfl <;> rfl) h12 (by simp [Value.cells]) fun w11 g11 s11 h12 => ?_
  have g911 := gr_put g10 g11 hb12
  simp only [go_sem, Nat.reduceEqDiff]
  rw [ldB3 h12 rfl, ldB3 (hb69.gr g911) rfl]
  simp only [go_sem, Nat.reduceEqDiff]
  refine do_store sz3 rfl (by intro u hu; simp [Value.cells] at hu; subst hu; rfl) h12 (by simp [Value.cells]) fun w12 g12 s12 h12 => ?_
  have g912 := gr_put g911 g12 hb12
  rw [ldB27 h12 rfl]
  simp only [go_sem, Nat.reduceEqDiff]
  have hU := (hown9 j (Nat.le_refl _) hlt3).gr g912
  have hO4 := hgr j hlt3
  refine ⟨fun f w' => ∃ m : Nat, m ≤ (rul (gmn gs i).rules j).2.length ∧ f 59 = .int .i64 m ∧ w12.grownBy w' (blk (psc j).1) ∧ Row w' w7.heap.size 3 1 (psc j).1 (rul (gmn gs i).rules j).2.length (psc j).2 (ints (((rul (gmn gs i).rules j).2.map (shiftS (nextN gs i))).take m ++ (rul (gmn gs i).rules j).2.drop m)), fun f _ => (rul (gmn gs i).rules j).2.length - (intOf (f 59)).toNat,
    ⟨0, Nat.zero_le _, rfl, gr_any (Gr.refl _) _, by simpa using hU⟩, ?_⟩
  rintro f5 w13 hag4 ⟨m, hm, h59, g13, hV⟩
  have c4 : f5 4 = .pointer (some ⟨b1, 0, none⟩) := (hag4 4 (by decide)).trans d4
  have c6 : f5 6 = .pointer (some ⟨b6, 0, none⟩) := (hag4 6 (by decide)).trans d6
  have c10 : f5 10 = .pointer (some ⟨b10, 0, none⟩) := (hag4 10 (by decide)).trans d10
  have c12 : f5 12 = .pointer (some ⟨b12, 0, none⟩) := hag4 12 (by decide)
  have c38 : f5 38 = .int .i64 i := (hag4 38 (by decide)).trans d38
  have c46 : f5 46 = .int .i64 j := (hag4 46 (by decide)).trans h46
  have c57 : f5 57 = .slice (psc j).1 (rul (gmn gs i).rules j).2.length (psc j).2 := hag4 57 (by decide)
  have c58 : f5 58 = .int .i64 (rul (gmn gs i).rules j).2.length := hag4 58 (by decide)
  have hb613 := (hb69.gr g912).kept g13 (box_row (hb69.gr g912) hU (by decide))
  have hb113 := (hb19.gr g912).kept g13 (box_row (hb19.gr g912) hU (by decide))
  have hb1013 := (hb109.gr g912).kept g13 (box_row (hb109.gr g912) hU (by decide))
  have h1213 := h12.kept g13 (box_row h12 hU (by decide))
  simp only [c4, c6, c10, c12, c38, c46, c57, c58, h59, go_sem, Nat.reduceEqDiff]
  by_cases hlt4 : m < (rul (gmn gs i).rules j).2.length
  · have hlt4' : (m : Int) < (rul (gmn gs i).rules j).2.length := by omega
    simp only [hlt4', decide_true, go_sem, Nat.reduceEqDiff]
    have hcm := (Row.src hV).cell m _ (intsAt_ (by simp; omega))
    rw [getD_appH hlt4 (by simp)] at hcm
    rw [ixn27 (fun h => Row.ptr hV h) hlt4, ld3 hcm]
    by_cases hs : 0 ≤ (rul (gmn gs i).rules j).2.getD m 0
    · simp only [hs, decide_true, go_sem, Nat.reduceEqDiff]
      rw [ldB27 h1213 rfl, ldB3 hb613 rfl]
      simp only [go_sem, Nat.reduceEqDiff]
      rw [ixn27 (fun h => Row.ptr hV h) hlt4]
      refine do_store_row sz3 rfl rfl hV (by rw [Nat.mul_one]; exact hlt4) fun w14 g14 s14 hV14 => ?_
      rw [ints_set, show IntKind.i64.wrap ((rul (gmn gs i).rules j).2.getD m 0 + nextN gs i) = ((rul (gmn gs i).rules j).2.map (shiftS (nextN gs i))).getD m 0 from by rw [getD_map hlt4]; exact (if_pos hs).symm, set_take_drop hlt4 (by simp)] at hV14
      rw [i64_of (by omega) (by omega)]
      refine ⟨⟨m + 1, hlt4, rfl, grownBy_trans g13 g14, hV14⟩, ?_⟩
      simp only [intOf]
      omega
    · simp only [hs, decide_false, go_sem, Nat.reduceEqDiff]
      rw [i64_of (by omega) (by omega)]
      refine ⟨⟨m + 1, hlt4, rfl, g13, ?_⟩, ?_⟩
      · rw [← take_keep hlt4 (by simp) (by rw [getD_map hlt4]; exact if_neg hs)]
        exact hV
      · simp only [intOf]
        omega
  simp only [show ¬ (m : Int) < (rul (gmn gs i).rules j).2.length from by omega, decide_false, go_sem, Nat.reduceEqDiff]
  obtain rfl : m = (rul (gmn gs i).rules j).2.length := by omega
  rw [List.take_of_length_le (by simp), List.drop_length, List.append_nil] at hV
  have hne : ∀ l, l < (moreN (firsts rl) gs i ++ shiftRs (nextN gs i) ((gmn gs i).rules.take j)).length → blk (pm l).1 = none ∨ blk (pm l).1 ≠ blk (psc j).1 := fun l hl => by
    rw [List.length_append, hlenj] at hl
    by_cases h : l < (moreN (firsts rl) gs i).length
    · rw [hpm1 l h]
      exact blk_ne (fun q hq => (Row.ge (o5.own l h) hq).2) (fun q hq => (Row.ge (hown9 j (Nat.le_refl _) hlt3) hq).1) g57.size
    · have := hpm2 (l - (moreN (firsts rl) gs i).length) (by omega)
      rw [show (moreN (firsts rl) gs i).length + (l - (moreN (firsts rl) gs i).length) = l from by omega] at this
      rw [this]
      exact oc.two _ j (by omega) hlt3 (by omega)
  have o13 := (o9.gr g912).inner hU (by decide) hne g13
  have hrc13 := Row.kept (Row.gr hrc9 g912) g13 (row_ne (Row.gr hrc9 g912) hU (by decide))
  have hown13 : ∀ l, j + 1 ≤ l → l < (gmn gs i).rules.length → Own 3 w13 w7.heap.size (psc l).1 (psc l).2 (rul (gmn gs i).rules l).2 := fun l h1 h2 => Row.kept (Row.gr (hown9 l (by omega) h2) g912) g13 (oc.two l j h2 hlt3 (by omega))
  have gw13 : Gr w w13 := gr_mod (gr_trans g9 g912) g13 fun q hq => by
    have := (Row.ge hU hq).1
    have := g5.size
    have := g57.size
    omega
  have hs13 : w5.heap.size ≤ w13.heap.size := Nat.le_trans hs9 (Nat.le_trans g912.size g13.size)
  rw [ldB24 hb613 rfl]
  rw [ldB_agg agg33 sz33 rfl h1213]
  refine bs24 [.int .i64 (IntKind.i64.wrap ((rul (gmn gs i).rules j).1 + nextN gs i)), .slice (psc j).1 (rul (gmn gs i).rules j).2.length (psc j).2] (by decide) (by simp [Instr.fill, madeCells, Value.cells, rng2]) rfl fun b14 w14 hb14 hb14' g14 hbox14 hrow14 => ?_
  have hN : RCells [.int .i64 (IntKind.i64.wrap ((rul (gmn gs i).rules j).1 + nextN gs i)), .slice (psc j).1 (rul (gmn gs i).rules j).2.length (psc j).2] [shiftR (nextN gs i) (rul (gmn gs i).rules j)] (fun _ => psc j) := ⟨rfl, fun l hl => by
    obtain rfl : l = 0 := by simpa using hl
    simp [rul, shiftR]⟩
  have hXb : blk X3 ≠ some b6 ∧ blk X3 ≠ some b1 ∧ blk X3 ≠ some b10 := by
    obtain ⟨cells, hr, _⟩ := (o13.gr g14).cells
    exact ⟨box_row (hb613.gr g14) hr (by decide), box_row (hb113.gr g14) hr (by decide), box_row (hb1013.gr g14) hr (by decide)⟩
  have hlx : (moreN (firsts rl) gs i ++ shiftRs (nextN gs i) ((gmn gs i).rules.take j)).length = (moreN (firsts rl) gs i).length + j := by rw [List.length_append, hlenj]
  have hw0 : w.heap.size ≤ w7.heap.size := by have := g5.size; have := g57.size; omega
  refine do_append_rules (ps := pm) (rs := moreN (firsts rl) gs i ++ shiftRs (nextN gs i) ((gmn gs i).rules.take j)) (qs := [shiftR (nextN gs i) (rul (gmn gs i).rules j)]) u24 inf33 rfl (by decide) hlx.symm rfl (o13.gr g14) (Row.src (hrow14 _ (Nat.le_refl _))) hN (fun l hl => ?_) (fun i j hi hj hij => ?_) (fun i' l hi' hl => hne i' hi') (by rw [hlx]; simp; omega) (by rw [hlx]; simp; omega) (Nat.le_trans gw13.size g14.size) fun X' c' w15 g15 o15 hmv => ?_
  · obtain rfl : l = 0 := by simpa using hl
    have h := Row.mono (Row.gr hV g14) hw0
    show Row w14 w.heap.size 3 1 (psc j).1 ((rul (gmn gs i).rules j).2.map (shiftS (nextN gs i))).length (psc j).2 (ints ((rul (gmn gs i).rules j).2.map (shiftS (nextN gs i))))
    rw [List.length_map]
    exact h
  · simp at hi hj
    omega
  have gw14 := gr_trans gw13 g14
  have hb615 := (hb613.gr g14).kept g15 hXb.1
  have hb115 := (hb113.gr g14).kept g15 hXb.2.1
  have hb1015 := (hb1013.gr g14).kept g15 hXb.2.2
  have hrc15 := Row.kept (Row.gr hrc13 g14) g15 (blk_sym hsep9)
  have hown15 : ∀ l, j + 1 ≤ l → l < (gmn gs i).rules.length → Own 3 w15 w7.heap.size (psc l).1 (psc l).2 (rul (gmn gs i).rules l).2 := fun l h1 h2 => Row.kept (Row.gr (hown13 l h1 h2) g14) g15 (by
    obtain ⟨cells, hr, _⟩ := (o13.gr g14).cells
    exact row_ne (Row.gr (hown13 l h1 h2) g14) hr (by decide))
  have gw15 : Gr w w15 := gr_mod gw14 g15 fun q hq => by
    obtain ⟨cells, hr, _⟩ := o13.cells
    exact (Row.ge hr hq).1
  refine do_store sz24 rfl (by intro u hu; simp [Value.cells] at hu; subst hu; rfl) hb615 (by simp [Value.cells]) fun w16 g16 s16 hb616 => ?_
  rw [i64_of (n := (j : Int) + 1) (by omega) (by omega)]
  have hsep16 : blk X' = none ∨ blk X' ≠ blk Xc := by
    rcases hmv with e | e
    · rw [e]
      exact hsep9
    · cases hq : blk X' with
      | none => exact .inl rfl
      | some q =>
        refine .inr fun e2 => ?_
        have := e q hq
        have := (Row.ge (Row.gr hrc13 g14) e2.symm).2
        omega
  have m106 : b6 ≠ b10 := fun e => m6 e.symm
  refine ⟨⟨j + 1, X', c', joinP ((moreN (firsts rl) gs i).length + j) pm (fun _ => psc j), hlt3, rfl, gr_put gw15 g16 q6, ?_, hb115.put g16 n6, by simpa [Value.cells, Nat.add_assoc] using hb616, hb1015.put g16 m106, ?_, fun l hl => ?_, fun l hl => ?_, hrc15.putb hb615 (by decide) g16, fun l h1 h2 => (hown15 l h1 h2).putb hb615 (by decide) g16, hsep16⟩, ?_⟩
  · exact Nat.le_trans hs13 (Nat.le_trans g14.size (Nat.le_trans g15.size g16.size))
  · rw [take_rul hlt3, shiftRs, List.map_append, ← List.append_assoc]
    rw [hlx] at o15
    exact o15.put hb615 (by decide) (by decide) g16
  · simp only [joinP, show l < (moreN (firsts rl) gs i).length + j from by omega, if_true]
    exact hpm1 l hl
  · by_cases h : l < j
    · simp only [joinP, show (moreN (firsts rl) gs i).length + l < (moreN (firsts rl) gs i).length + j from by omega, if_true]
      exact hpm2 l h
    · obtain rfl : l = j := by omega
      simp only [joinP, Nat.lt_irrefl, if_false]
  · simp only [intOf]
    omega
end Go.Proofs.Ytegcjkhebecgbaa

/- Slices of slices of numbers that are owned, among things that lie apart. -/
set_option linter.unusedVariables false
set_option linter.unusedSimpArgs false
set_option maxRecDepth 100000
namespace Go.Sh
open Go
/-- Nothing. -/
def emp : Thing := ⟨fun _ => True, fun _ => False⟩
/-- Two things become one. -/
theorem Apt.join {w0 w w' : World} {L : List Thing} (H : Apt w0 w L) {i j : Nat} {a b it : Thing} (hij : i ≠ j) (hi : L[i]? = some a) (hj : L[j]? = some b) (g : Gx (fun q => a.ft q ∨ b.ft q) w w') (lo : ∀ q, it.ft q → a.ft q ∨ b.ft q ∨ w.heap.size ≤ q) (hh : ∀ q, it.ft q → q < w'.heap.size)
    (kept : ∀ w'', (∀ q, it.ft q → w''.heap[q]? = w'.heap[q]?) → it.P w'') : Apt w0 w' ((L.set i it).set j emp) := by
  have ha := H.ok i a hi
  have hb := H.ok j b hj
  have hsz := H.gr.size
  have sub : ∀ l x, ((L.set i it).set j emp)[l]? = some x → (l = j ∧ x = emp) ∨ (l = i ∧ l ≠ j ∧ x = it) ∨ (l ≠ i ∧ l ≠ j ∧ L[l]? = some x) := fun l x hx => by
    rcases get_set hx with h | ⟨h1, h2⟩
    · exact .inl h
    · rcases get_set h2 with ⟨h3, h4⟩ | ⟨h3, h4⟩
      · exact .inr (.inl ⟨h3, h1, h4⟩)
      · exact .inr (.inr ⟨h3, h1, h4⟩)
  refine ⟨Gx.gr_after H.gr g fun q hq => hq.elim (ha.lo q) (hb.lo q), fun l x hx => ?_, fun l m x y hlm hx hy q hq hq' => ?_⟩
  · rcases sub l x hx with ⟨_, rfl⟩ | ⟨_, _, rfl⟩ | ⟨h1, h2, h3⟩
    · exact ⟨fun q hq => hq.elim, fun q hq => hq.elim, fun _ _ => trivial⟩
    · refine ⟨fun q hq => ?_, hh, kept⟩
      rcases lo q hq with h | h | h
      · exact ha.lo q h
      · exact hb.lo q h
      · omega
    · have := H.ok l x h3
      exact this.step g.size fun q hq => g.block q (this.hi q hq) fun hq' => hq'.elim (H.two l i x a h1 h3 hi q hq) (H.two l j x b h2 h3 hj q hq)
  · rcases sub l x hx with ⟨_, rfl⟩ | ⟨hli, _, rfl⟩ | ⟨h1, h2, h3⟩
    · exact hq
    · rcases sub m y hy with ⟨_, rfl⟩ | ⟨hmi, _, rfl⟩ | ⟨g1, g2, g3⟩
      · exact hq'
      · exact hlm (hli.trans hmi.symm)
      · rcases lo q hq with h | h | h
        · exact H.two i m a y (fun e => g1 e.symm) hi g3 q h hq'
        · exact H.two j m b y (fun e => g2 e.symm) hj g3 q h hq'
        · have := (H.ok m y g3).hi q hq'
          omega
    · rcases sub m y hy with ⟨_, rfl⟩ | ⟨hmi, _, rfl⟩ | ⟨g1, g2, g3⟩
      · exact hq'
      · rcases lo q hq' with h | h | h
        · exact H.two l i x a h1 h3 hi q hq h
        · exact H.two l j x b h2 h3 hj q hq h
        · have := (H.ok l x h3).hi q hq
          omega
      · exact H.two l m x y hlm h3 g3 q hq hq'
/-- Slices of numbers of the call's own: the row, and a slice of its own for each. -/
structure OwnSS (e1 e2 : Nat) (w : World) (B : Nat) (X : Option Addr) (c : Nat) (ls : List (List Int)) (ps : Nat → Option Addr × Nat) : Prop where
  row : ∃ cells, Row w B e1 1 X ls.length c cells ∧ ∀ j, j < ls.length → cells[j]? = some (.slice (ps j).1 (rgt ls j).length (ps j).2)
  own : ∀ j, j < ls.length → Own e2 w B (ps j).1 (ps j).2 (rgt ls j)
  two : ∀ i j, i < ls.length → j < ls.length → i ≠ j → blk (ps i).1 = none ∨ blk (ps i).1 ≠ blk (ps j).1
theorem OwnSS.same {e1 e2 : Nat} {w w' : World} {B : Nat} {X : Option Addr} {c : Nat} {ls : List (List Int)} {ps : Nat → Option Addr × Nat} (h : OwnSS e1 e2 w B X c ls ps) (hs : ∀ q, Foot X ps ls.length q → w'.heap[q]? = w.heap[q]?) : OwnSS e1 e2 w' B X c ls ps := by
  obtain ⟨⟨cells, hr, hc⟩, ho, ht⟩ := h
  exact ⟨⟨cells, hr.same fun q hq => hs q (.inl hq), hc⟩, fun j hj => Row.same (ho j hj) fun q hq => hs q (.inr ⟨j, hj, hq⟩), ht⟩
theorem OwnSS.up {e1 e2 : Nat} {w : World} {B B' : Nat} {X : Option Addr} {c : Nat} {ls : List (List Int)} {ps : Nat → Option Addr × Nat} (h : OwnSS e1 e2 w B X c ls ps) (hs : ∀ q, Foot X ps ls.length q → B' ≤ q) : OwnSS e1 e2 w B' X c ls ps := by
  obtain ⟨⟨cells, hr, hc⟩, ho, ht⟩ := h
  exact ⟨⟨cells, hr.up fun q hq => hs q (.inl hq), hc⟩, fun j hj => Row.up (ho j hj) fun q hq => hs q (.inr ⟨j, hj, hq⟩), ht⟩
theorem OwnSS.mono {e1 e2 : Nat} {w : World} {B B' : Nat} {X : Option Addr} {c : Nat} {ls : List (List Int)} {ps : Nat → Option Addr × Nat} (h : OwnSS e1 e2 w B X c ls ps) (hb : B' ≤ B) : OwnSS e1 e2 w B' X c ls ps := by
  obtain ⟨⟨cells, hr, hc⟩, ho, ht⟩ := h
  exact ⟨⟨cells, Row.mono hr hb, hc⟩, fun j hj => Row.mono (ho j hj) hb, ht⟩
theorem OwnSS.foot {e1 e2 : Nat} {w : World} {B c : Nat} {X : Option Addr} {ls : List (List Int)} {ps : Nat → Option Addr × Nat} (h : OwnSS e1 e2 w B X c ls ps) {q : Nat} (hq : Foot X ps ls.length q) : B ≤ q ∧ q < w.heap.size := by
  obtain ⟨⟨cells, hr, hc⟩, ho, ht⟩ := h
  rcases hq with hq | ⟨l, hl, hq⟩
  · exact hr.ge hq
  · exact Row.ge (ho l hl) hq
theorem OwnSS.gr {e1 e2 : Nat} {w w' : World} {B : Nat} {X : Option Addr} {c : Nat} {ls : List (List Int)} {ps : Nat → Option Addr × Nat} (h : OwnSS e1 e2 w B X c ls ps) (g : Gr w w') : OwnSS e1 e2 w' B X c ls ps := h.same fun q hq => g.block q (h.foot hq).2 (by simp)
theorem OwnSS.read {e1 e2 : Nat} {w : World} {B : Nat} {X : Option Addr} {c : Nat} {ls : List (List Int)} {ps : Nat → Option Addr × Nat} (h : OwnSS e1 e2 w B X c ls ps) : Intss w X ls := by
  obtain ⟨⟨cells, hr, hc⟩, ho, ht⟩ := h
  have hcap := hr.cap
  refine ⟨by omega, fun hp => hr.ptr hp, fun j hj => ?_⟩
  have hc' := Row.cap (ho j hj)
  exact ⟨(ps j).1, (ps j).2, hr.src.cell _ _ (hc j hj), by omega, Own.ints (ho j hj)⟩
def lssi (e1 e2 : Nat) (X : Option Addr) (c : Nat) (ls : List (List Int)) (ps : Nat → Option Addr × Nat) : Thing := ⟨fun w => OwnSS e1 e2 w 0 X c ls ps, Foot X ps ls.length⟩
theorem lssi_kept {w : World} {B e1 e2 c : Nat} {X : Option Addr} {ls : List (List Int)} {ps : Nat → Option Addr × Nat} (h : OwnSS e1 e2 w B X c ls ps) : ∀ w', (∀ q, (lssi e1 e2 X c ls ps).ft q → w'.heap[q]? = w.heap[q]?) → (lssi e1 e2 X c ls ps).P w' := fun w' hq => (h.mono (Nat.zero_le B)).same hq
theorem Apt.lssi {w0 w : World} {L : List Thing} (H : Apt w0 w L) (i : Nat) {e1 e2 c : Nat} {X : Option Addr} {ls : List (List Int)} {ps : Nat → Option Addr × Nat} (hi : L[i]? = some (lssi e1 e2 X c ls ps)) : OwnSS e1 e2 w w0.heap.size X c ls ps := OwnSS.up (H.get i hi) (H.ok i _ hi).lo
theorem Apt.addLss {w0 w w' : World} {L : List Thing} (H : Apt w0 w L) (g : Gr w w') {e1 e2 c : Nat} {X : Option Addr} {ls : List (List Int)} {ps : Nat → Option Addr × Nat} (h : OwnSS e1 e2 w' w.heap.size X c ls ps) : Apt w0 w' (L ++ [Sh.lssi e1 e2 X c ls ps]) := H.add g _ (fun q hq => (h.foot hq).1) (fun q hq => (h.foot hq).2) (lssi_kept h)
theorem OwnSS.nil (w : World) (B e1 e2 : Nat) (ps : Nat → Option Addr × Nat) : OwnSS e1 e2 w B none 0 [] ps := ⟨⟨[], Row.nil _ _ _ _, fun j hj => by simp at hj⟩, fun j hj => by simp at hj, fun i j hi => by simp at hi⟩
theorem rgt_left {ls ms : List (List Int)} {i : Nat} (h : i < ls.length) : rgt (ls ++ ms) i = rgt ls i := by
  simp [rgt, List.getD_eq_getElem?_getD, List.getElem?_append_left h]
theorem rgt_last {ls : List (List Int)} {y : List Int} : rgt (ls ++ [y]) ls.length = y := by
  simp [rgt, List.getD_eq_getElem?_getD]
theorem rgt_eq {ls : List (List Int)} {i : Nat} (h : i < ls.length) : rgt ls i = ls[i] := by simp [rgt, List.getD_eq_getElem?_getD, h]
theorem take_snoc_rgt {ls : List (List Int)} {i : Nat} (h : i < ls.length) : ls.take (i + 1) = ls.take i ++ [rgt ls i] := by
  rw [List.take_succ_eq_append_getElem h, rgt_eq h]
/-- One more slice. -/
theorem OwnSS.push {e1 e2 : Nat} {w w' : World} {B B' c d c' : Nat} {X X' Y : Option Addr} {ls : List (List Int)} {ys : List Int} {ps : Nat → Option Addr × Nat} {cells : List Value} (h : OwnSS e1 e2 w B X c ls ps) (ho : Own e2 w B' Y d ys) (hne : ∀ l, l < ls.length → blk (ps l).1 = none ∨ blk (ps l).1 ≠ blk Y) (he : e1 ≠ e2)
    (hr0 : Row w B e1 1 X ls.length c cells) (hc : ∀ j, j < ls.length → cells[j]? = some (.slice (ps j).1 (rgt ls j).length (ps j).2)) (hr : Row w' B e1 1 X' (ls.length + 1) c' (cells ++ [.slice Y ys.length d])) (g : w.grownBy w' (blk X)) : OwnSS e1 e2 w' 0 X' c' (ls ++ [ys]) (fun i => if i = ls.length then (Y, d) else ps i) := by
  have hlen := hr0.len
  refine ⟨⟨_, by rw [List.length_append]; exact Row.mono hr (Nat.zero_le _), fun j hj => ?_⟩, fun j hj => ?_, fun i j hi hj hij => ?_⟩
  · by_cases hlt : j < ls.length
    · rw [List.getElem?_append_left (by omega), hc j hlt, rgt_left hlt, if_neg (by omega)]
    · obtain rfl : j = ls.length := by simp at hj; omega
      rw [List.getElem?_append_right (by omega), rgt_last, if_pos rfl, hlen]
      simp
  · by_cases hlt : j < ls.length
    · rw [if_neg (by omega), rgt_left hlt]
      exact Row.mono (Row.kept (h.own j hlt) g (row_ne (h.own j hlt) hr0 fun e => he e.symm)) (Nat.zero_le _)
    · obtain rfl : j = ls.length := by simp at hj; omega
      rw [if_pos rfl, rgt_last]
      exact Row.mono (Row.kept ho g (row_ne ho hr0 fun e => he e.symm)) (Nat.zero_le _)
  · rw [List.length_append] at hi hj
    simp only [List.length_cons, List.length_nil] at hi hj
    by_cases h1 : i < ls.length <;> by_cases h2 : j < ls.length
    · rw [if_neg (by omega), if_neg (by omega)]
      exact h.two i j h1 h2 hij
    · obtain rfl : j = ls.length := by omega
      rw [if_neg (by omega), if_pos rfl]
      exact hne i h1
    · obtain rfl : i = ls.length := by omega
      rw [if_pos rfl, if_neg (by omega)]
      exact blk_sym (hne j h2)
    · omega
theorem rgt_right {ls ms : List (List Int)} {i : Nat} (h : ls.length ≤ i) : rgt (ls ++ ms) i = rgt ms (i - ls.length) := by
  simp [rgt, List.getD_eq_getElem?_getD, List.getElem?_append_right h]
/-- Slices behind slices. -/
theorem OwnSS.append {e1 e2 : Nat} {w w' : World} {B B' c d c' : Nat} {X X' Y : Option Addr} {ls ms : List (List Int)} {ps qs : Nat → Option Addr × Nat} {cells news : List Value} (h : OwnSS e1 e2 w B X c ls ps) (g0 : OwnSS e1 e2 w B' Y d ms qs) (hne : ∀ l m, l < ls.length → m < ms.length → blk (ps l).1 = none ∨ blk (ps l).1 ≠ blk (qs m).1) (he : e1 ≠ e2)
    (hr0 : Row w B e1 1 X ls.length c cells) (hc : ∀ j, j < ls.length → cells[j]? = some (.slice (ps j).1 (rgt ls j).length (ps j).2)) (hnl : news.length = ms.length) (hN : ∀ j, j < ms.length → news[j]? = some (.slice (qs j).1 (rgt ms j).length (qs j).2)) (hr : Row w' B e1 1 X' (ls.length + ms.length) c' (cells ++ news)) (g : w.grownBy w' (blk X)) : OwnSS e1 e2 w' 0 X' c' (ls ++ ms) (joinP ls.length ps qs) := by
  have hlen := hr0.len
  refine ⟨⟨_, by rw [List.length_append]; exact Row.mono hr (Nat.zero_le _), fun j hj => ?_⟩, fun j hj => ?_, fun i j hi hj hij => ?_⟩
  · rw [List.length_append] at hj
    by_cases hlt : j < ls.length
    · rw [List.getElem?_append_left (by omega), hc j hlt, rgt_left hlt]
      simp only [joinP, hlt, if_true]
    · rw [List.getElem?_append_right (by omega), rgt_right (by omega)]
      simp only [joinP, hlt, if_false]
      rw [show j - cells.length = j - ls.length from by omega]
      exact hN _ (by omega)
  · rw [List.length_append] at hj
    by_cases hlt : j < ls.length
    · rw [rgt_left hlt]
      simp only [joinP, hlt, if_true]
      exact Row.mono (Row.kept (h.own j hlt) g (row_ne (h.own j hlt) hr0 fun e => he e.symm)) (Nat.zero_le _)
    · rw [rgt_right (by omega)]
      simp only [joinP, hlt, if_false]
      exact Row.mono (Row.kept (g0.own _ (by omega)) g (row_ne (g0.own _ (by omega)) hr0 fun e => he e.symm)) (Nat.zero_le _)
  · rw [List.length_append] at hi hj
    by_cases h1 : i < ls.length <;> by_cases h2 : j < ls.length <;> simp only [joinP, h1, h2, if_true, if_false]
    · exact h.two i j h1 h2 hij
    · exact hne i _ h1 (by omega)
    · exact blk_sym (hne j _ h2 (by omega))
    · exact g0.two _ _ (by omega) (by omega) (by omega)
/-- One number of one slice is written. -/
theorem OwnSS.put {e1 e2 : Nat} {w w' : World} {B c i m : Nat} {x : Int} {X : Option Addr} {ls : List (List Int)} {ps : Nat → Option Addr × Nat} (h : OwnSS e1 e2 w B X c ls ps) (he : e1 ≠ e2) (hi : i < ls.length) (hr : Row w' B e2 1 (ps i).1 (rgt ls i).length (ps i).2 (ints ((rgt ls i).set m x))) (g : w.grownBy w' (blk (ps i).1)) : OwnSS e1 e2 w' B X c (ls.set i ((rgt ls i).set m x)) ps := by
  obtain ⟨⟨cells, hr0, hc⟩, ho, ht⟩ := h
  have hg : ∀ j, rgt (ls.set i ((rgt ls i).set m x)) j = if j = i then (rgt ls i).set m x else rgt ls j := fun j => by
    simp only [rgt, List.getD_eq_getElem?_getD, List.getElem?_set]
    by_cases hij : i = j
    · subst hij
      simp [hi]
    · rw [if_neg hij, if_neg (fun e => hij e.symm)]
  refine ⟨⟨cells, by rw [List.length_set]; exact Row.kept hr0 g (row_ne hr0 (ho i hi) he), fun j hj => ?_⟩, fun j hj => ?_, fun a b ha hb hab => ?_⟩
  · rw [List.length_set] at hj
    rw [hc j hj, hg j]
    by_cases hij : j = i
    · subst hij
      rw [if_pos rfl, List.length_set]
    · rw [if_neg hij]
  · rw [List.length_set] at hj
    rw [hg j]
    by_cases hij : j = i
    · subst hij
      rw [if_pos rfl]
      unfold Own
      rw [List.length_set]
      exact hr
    · rw [if_neg hij]
      exact Row.kept (ho j hj) g (ht j i hj hi hij)
  · rw [List.length_set] at ha hb
    exact ht a b ha hb hab
theorem OwnSS.ptr {e1 e2 : Nat} {w : World} {B c : Nat} {X : Option Addr} {ls : List (List Int)} {ps : Nat → Option Addr × Nat} (h : OwnSS e1 e2 w B X c ls ps) (hl : 0 < ls.length) : X = some (ad X) := by
  obtain ⟨⟨cells, hr, hc⟩, _⟩ := h
  exact hr.ptr hl
theorem OwnSS.cell {e1 e2 : Nat} {w : World} {B c : Nat} {X : Option Addr} {ls : List (List Int)} {ps : Nat → Option Addr × Nat} (h : OwnSS e1 e2 w B X c ls ps) {j : Nat} (hj : j < ls.length) : w.cell? ((ad X).add j) = some (.slice (ps j).1 (rgt ls j).length (ps j).2) := by
  obtain ⟨⟨cells, hr, hc⟩, _⟩ := h
  exact hr.src.cell _ _ (hc j hj)
/-- A row of one slice, and that slice. -/
theorem Apt.single {w0 w : World} {L : List Thing} (H : Apt w0 w L) {i j : Nat} (hij : i ≠ j) {e1 e2 c d : Nat} {X Y : Option Addr} {ys : List Int} (hi : L[i]? = some (rwi e1 1 X 1 c [.slice Y ys.length d])) (hj : L[j]? = some (rwi e2 1 Y ys.length d (Sh.ints ys))) : Apt w0 w ((L.set i (Sh.lssi e1 e2 X c [ys] fun _ => (Y, d))).set j emp) := by
  have hr := H.row i hi
  have ho := H.row j hj
  have o : OwnSS e1 e2 w w0.heap.size X c [ys] fun _ => (Y, d) := by
    refine ⟨⟨_, hr, fun l hl => ?_⟩, fun l hl => ?_, fun a b ha hb hab => ?_⟩
    · obtain rfl : l = 0 := by simpa using hl
      rfl
    · obtain rfl : l = 0 := by simpa using hl
      exact ho
    · simp at ha hb
      omega
  refine H.join hij hi hj (Gx.refl _ w) (fun q hq => ?_) (fun q hq => (o.foot hq).2) (lssi_kept o)
  rcases hq with hq | ⟨l, hl, hq⟩
  · exact .inl hq
  · exact .inr (.inl hq)
end Go.Sh
namespace Go.Proofs.Ytegcjkhebecgbaa
open Go Go.Sh Go.RowKit
abbrev lss (X : Option Addr) (c : Nat) (ls : List (List Int)) (ps : Nat → Option Addr × Nat) : Thing := lssi 27 3 X c ls ps
section
variable {k : Value → World → Prop} {w0 w w' : World} {L : List Thing}
/-- append of one owned slice to slices. -/
theorem pushSSH {k : Value → Value → World → Prop} (H : Apt w0 w L) (i j : Nat) (hij : i ≠ j) {u n c m d : Nat} {X Y : Option Addr} {ls : List (List Int)} {ys : List Int} {ps : Nat → Option Addr × Nat} (hi : L[i]? = some (lss X c ls ps)) (hj : L[j]? = some (ows Y d ys)) {cs : List Bool} (hn : n = ls.length) (hm : m = ys.length) (hb : ls.length ≤ 1000000000)
    (h : ∀ t X' c' w' ps', Apt w0 w' ((L.set i (lss X' c' (ls ++ [ys]) ps')).set j emp) → k t (.slice X' (ls ++ [ys]).length c') w') : Do Try.prog (sBuildSlice 35 1 [(0, .slice Y m d)]) (fun t w1 => Do Try.prog (sBuiltin .append #[35, 35] u cs [.slice X n c, t]) (k t) w1) w := by
  subst hn hm
  refine bs35 [.slice Y ys.length d] (by decide) (by simp [Instr.fill, madeCells, Value.cells, rng1]) rfl fun b w1 hb1 hb2 g hB hr => ?_
  have H1 := H.step g
  have o1 := H1.lssi i hi
  have o1' := o1
  obtain ⟨⟨cells, hr1, hc⟩, ho, ht⟩ := o1'
  have hY : Own 3 w1 w0.heap.size Y d ys := H1.own j hj
  refine do_append2 u35 inf27 rfl (by decide) hr1 (Row.src (hr _ (Nat.le_refl _))) rfl (by intro v hv; simp at hv; subst hv; rfl) (by omega) (by omega) H1.gr.size fun X' c' w' hr' hg hmv => ?_
  rw [show ls.length + 1 = (ls ++ [ys]).length from by simp]
  refine h _ X' c' w' (fun i => if i = ls.length then (Y, d) else ps i) (H1.join hij hi hj (gx_of hg fun q hq => .inl (.inl hq)) (fun q hq => ?_) (fun q hq => ?_) ?_)
  · rcases hq with hq | ⟨l, hl, hq⟩
    · rcases hmv with e | e
      · exact .inl (.inl (e ▸ hq))
      · exact .inr (.inr (e q hq))
    · rw [List.length_append] at hl
      simp only [List.length_cons, List.length_nil] at hl
      by_cases h1 : l = ls.length
      · subst h1
        simp only [if_true] at hq
        exact .inr (.inl hq)
      · simp only [h1, if_false] at hq
        exact .inl (.inr ⟨l, by omega, hq⟩)
  · have := (o1.push hY (fun l hl => by
      cases hq : blk (ps l).1 with
      | none => exact .inl rfl
      | some q => exact .inr fun e => H1.two i j _ _ hij hi hj q (.inr ⟨l, hl, hq⟩) (show blk Y = some q from e.symm)) (by decide) hr1 hc hr' hg)
    exact (this.foot hq).2
  · exact lssi_kept (o1.push hY (fun l hl => by
      cases hq : blk (ps l).1 with
      | none => exact .inl rfl
      | some q => exact .inr fun e => H1.two i j _ _ hij hi hj q (.inr ⟨l, hl, hq⟩) (show blk Y = some q from e.symm)) (by decide) hr1 hc hr' hg)
end
end Go.Proofs.Ytegcjkhebecgbaa

/- Plain: trees by lists of rules. -/
set_option linter.unusedVariables false
set_option linter.unusedSimpArgs false
namespace Go.Sh
/-! Trees by lists of rules. -/
inductive PT where
  | mk (non : Int) (rule at_ fin fr to : Nat) (kids : List PT)
def PT.non : PT → Int | .mk n _ _ _ _ _ _ => n
def PT.rule : PT → Nat | .mk _ r _ _ _ _ _ => r
def PT.at_ : PT → Nat | .mk _ _ a _ _ _ _ => a
def PT.fin : PT → Nat | .mk _ _ _ e _ _ _ => e
def PT.fr : PT → Nat | .mk _ _ _ _ f _ _ => f
def PT.to : PT → Nat | .mk _ _ _ _ _ t _ => t
def PT.kids : PT → List PT | .mk _ _ _ _ _ _ k => k
def okT (rs : List RuleL) (tree : List Int) (non : Int) (a : Nat) : Bool :=
  decide (a < tree.length) && (decide (0 ≤ tree.getD a 0) && decide (tree.getD a 0 ≤ (rs.length : Int) - 1)) && decide ((rul rs (tree.getD a 0).toNat).1 = non)
def rgtT (rs : List RuleL) (tree : List Int) (a : Nat) : List Int := (rul rs (tree.getD a 0).toNat).2
def readR (rec : Int → Nat → List Int → Option (PT × List Int)) : List Int → Nat → List Int → List PT → Option (List PT × Nat × List Int)
  | [], e, w, ks => some (ks, e, w)
  | x :: xs, e, w, ks => if x < 0 then readR rec xs e (w ++ [-1 - x]) ks else match rec x e w with
    | none => none
    | some (k, w') => readR rec xs k.fin w' (ks ++ [k])
def readT (rs : List RuleL) (tree : List Int) : Nat → Int → Nat → List Int → Option (PT × List Int)
  | 0, _, _, _ => none
  | f + 1, non, a, w => if okT rs tree non a = true then match readR (readT rs tree f) (rgtT rs tree a) (a + 1) w [] with
      | none => none
      | some (ks, e, w') => some (.mk non (tree.getD a 0).toNat a e w.length w'.length ks, w')
    else none
def endR (rec : Int → Nat → Option Nat) : List Int → Nat → Option Nat
  | [], e => some e
  | x :: xs, e => if x < 0 then endR rec xs e else match rec x e with
    | none => none
    | some e' => endR rec xs e'
def endT (rs : List RuleL) (tree : List Int) : Nat → Int → Nat → Option Nat
  | 0, _, _ => none
  | f + 1, non, a => if okT rs tree non a = true then endR (endT rs tree f) (rgtT rs tree a) (a + 1) else none
theorem endR_eq {rec : Int → Nat → List Int → Option (PT × List Int)} {rec' : Int → Nat → Option Nat} (h : ∀ x a w, rec' x a = (rec x a w).map fun z => z.1.fin) : ∀ (xs : List Int) (e : Nat) (w : List Int) (ks : List PT), endR rec' xs e = (readR rec xs e w ks).map fun z => z.2.1 := by
  intro xs
  induction xs with
  | nil => intro e w ks; rfl
  | cons x xs ih =>
    intro e w ks
    unfold endR readR
    by_cases hx : x < 0
    · rw [if_pos hx, if_pos hx]
      exact ih _ _ _
    · rw [if_neg hx, if_neg hx, h x e w]
      cases rec x e w with
      | none => rfl
      | some z => exact ih _ _ _
theorem endT_eq (rs : List RuleL) (tree : List Int) : ∀ (f : Nat) (non : Int) (a : Nat) (w : List Int), endT rs tree f non a = (readT rs tree f non a w).map fun z => z.1.fin := by
  intro f
  induction f with
  | zero => intro non a w; rfl
  | succ f ih =>
    intro non a w
    unfold endT readT
    by_cases hk : okT rs tree non a = true
    · rw [if_pos hk, if_pos hk, endR_eq ih _ _ w []]
      cases readR (readT rs tree f) (rgtT rs tree a) (a + 1) w [] <;> rfl
    · rw [if_neg hk, if_neg hk]
      rfl
mutual
def PT.parts : PT → List PT
  | .mk n r a e f t ks => .mk n r a e f t ks :: PT.partsL ks
def PT.partsL : List PT → List PT
  | [] => []
  | k :: ks => k.parts ++ PT.partsL ks
end
theorem partsL_append (ks ls : List PT) : PT.partsL (ks ++ ls) = PT.partsL ks ++ PT.partsL ls := by
  induction ks with
  | nil => simp [PT.partsL]
  | cons k ks ih => simp [PT.partsL, ih]
theorem parts_cons (p : PT) : p.parts = p :: PT.partsL p.kids := by
  cases p
  simp [PT.parts, PT.kids]
/-- Parts stand one behind the other from a place on; each part's own stand behind it. -/
def Laid (l : List PT) (a : Nat) : Prop := ∀ i, (h : i < l.length) → l[i].at_ = a + i ∧ l[i].fin ≤ a + l.length ∧ a + i < l[i].fin ∧ l[i].parts = (l.drop i).take (l[i].fin - (a + i))
theorem Laid.append {l m : List PT} {a : Nat} (h : Laid l a) (g : Laid m (a + l.length)) : Laid (l ++ m) a := by
  intro i hi
  by_cases hl : i < l.length
  · obtain ⟨h1, h2, h3, h4⟩ := h i hl
    rw [List.getElem_append_left hl]
    refine ⟨h1, by simp; omega, h3, ?_⟩
    rw [List.drop_append_of_le_length (by omega), List.take_append_of_le_length (by simp; omega)]
    exact h4
  · obtain ⟨d, rfl⟩ : ∃ d, i = l.length + d := ⟨i - l.length, by omega⟩
    have hm : d < m.length := by simp at hi; omega
    obtain ⟨h1, h2, h3, h4⟩ := g d hm
    have e : (l ++ m)[l.length + d] = m[d] := by
      rw [List.getElem_append_right (by omega)]
      simp
    rw [e]
    have hlen : (l ++ m).length = l.length + m.length := List.length_append
    refine ⟨?_, ?_, ?_, ?_⟩
    · omega
    · omega
    · omega
    · have e2 : (l ++ m).drop (l.length + d) = m.drop d := by
        rw [← List.drop_drop, List.drop_left]
      rw [h4, e2, Nat.add_assoc]
theorem readR_laid {rec : Int → Nat → List Int → Option (PT × List Int)} (h : ∀ x a w p w', rec x a w = some (p, w') → Laid p.parts a ∧ p.fin = a + p.parts.length ∧ p.at_ = a ∧ p.non = x ∧ p.fr = w.length ∧ p.to = w'.length ∧ w.length ≤ w'.length) :
    ∀ (xs : List Int) (e : Nat) (w : List Int) (ks : List PT) (a : Nat) {ks' : List PT} {e' : Nat} {w' : List Int}, Laid (PT.partsL ks) a → e = a + (PT.partsL ks).length → readR rec xs e w ks = some (ks', e', w') → Laid (PT.partsL ks') a ∧ e' = a + (PT.partsL ks').length ∧ w.length ≤ w'.length := by
  intro xs
  induction xs with
  | nil =>
    intro e w ks a ks' e' w' hl he hr
    simp only [readR, Option.some.injEq, Prod.mk.injEq] at hr
    obtain ⟨rfl, rfl, rfl⟩ := hr
    exact ⟨hl, he, Nat.le_refl _⟩
  | cons x xs ih =>
    intro e w ks a ks' e' w' hl he hr
    unfold readR at hr
    by_cases hx : x < 0
    · rw [if_pos hx] at hr
      obtain ⟨h1, h2, h3⟩ := ih _ _ _ _ hl he hr
      exact ⟨h1, h2, by simp at h3; omega⟩
    · rw [if_neg hx] at hr
      cases hz : rec x e w with
      | none => rw [hz] at hr; cases hr
      | some z =>
        obtain ⟨k, w1⟩ := z
        rw [hz] at hr
        obtain ⟨h1, h2, _, _, _, _, h3⟩ := h x e w k w1 hz
        have hl' : Laid (PT.partsL (ks ++ [k])) a := by
          rw [partsL_append]
          refine hl.append ?_
          simp only [PT.partsL, List.append_nil]
          rw [← he]
          exact h1
        obtain ⟨g1, g2, g3⟩ := ih _ _ _ _ hl' (by rw [partsL_append]; simp [PT.partsL]; omega) hr
        exact ⟨g1, g2, by omega⟩
theorem readT_laid (rs : List RuleL) (tree : List Int) : ∀ (f : Nat) (non : Int) (a : Nat) (w : List Int) (p : PT) (w' : List Int), readT rs tree f non a w = some (p, w') → Laid p.parts a ∧ p.fin = a + p.parts.length ∧ p.at_ = a ∧ p.non = non ∧ p.fr = w.length ∧ p.to = w'.length ∧ w.length ≤ w'.length := by
  intro f
  induction f with
  | zero => intro non a w p w' h; cases h
  | succ f ih =>
    intro non a w p w' h
    unfold readT at h
    by_cases hk : okT rs tree non a = true
    · rw [if_pos hk] at h
      cases hz : readR (readT rs tree f) (rgtT rs tree a) (a + 1) w [] with
      | none => rw [hz] at h; cases h
      | some z =>
        obtain ⟨ks, e, w1⟩ := z
        rw [hz] at h
        simp only [Option.some.injEq, Prod.mk.injEq] at h
        obtain ⟨rfl, rfl⟩ := h
        have h0 : Laid (PT.partsL []) (a + 1) := fun i hi => by simp [PT.partsL] at hi
        obtain ⟨h1, h2, h3⟩ := readR_laid ih _ _ _ _ (a + 1) h0 (by simp [PT.partsL]) hz
        refine ⟨?_, by simp [PT.parts, PT.fin]; omega, rfl, rfl, rfl, rfl, h3⟩
        rw [PT.parts]
        intro i hi
        cases i with
        | zero =>
          refine ⟨rfl, ?_, ?_, ?_⟩
          · simp [PT.fin]; omega
          · simp [PT.fin]; omega
          · simp only [List.getElem_cons_zero, PT.fin, List.drop_zero, PT.parts]
            rw [List.take_of_length_le]
            simp
            omega
        | succ i =>
          simp only [List.length_cons] at hi
          obtain ⟨g1, g2, g3, g4⟩ := h1 i (by omega)
          simp only [List.getElem_cons_succ, List.drop_succ_cons, List.length_cons]
          refine ⟨by rw [g1]; omega, by omega, by omega, ?_⟩
          rw [g4]
          congr 1
          omega
    · rw [if_neg hk] at h
      cases h
theorem readR_words {rec : Int → Nat → List Int → Option (PT × List Int)} (h : ∀ x a w p w', rec x a w = some (p, w') → w.length ≤ w'.length ∧ w'.length ≤ w.length + 4 * p.parts.length) :
    ∀ (xs : List Int) (e : Nat) (w : List Int) (ks : List PT) {ks' : List PT} {e' : Nat} {w' : List Int}, readR rec xs e w ks = some (ks', e', w') → w.length ≤ w'.length ∧ w'.length + 4 * (PT.partsL ks).length ≤ w.length + xs.length + 4 * (PT.partsL ks').length := by
  intro xs
  induction xs with
  | nil =>
    intro e w ks ks' e' w' hr
    simp only [readR, Option.some.injEq, Prod.mk.injEq] at hr
    obtain ⟨rfl, rfl, rfl⟩ := hr
    simp
  | cons x xs ih =>
    intro e w ks ks' e' w' hr
    unfold readR at hr
    split at hr
    · have := ih _ _ _ hr
      simp at this ⊢
      omega
    · split at hr
      · cases hr
      · rename_i k w1 hz
        have h1 := h _ _ _ _ _ hz
        have h2 := ih _ _ _ hr
        rw [partsL_append] at h2
        simp [PT.partsL] at h2 ⊢
        omega
theorem readT_words {rs : List RuleL} {tree : List Int} (h4 : ∀ q, q < rs.length → (rul rs q).2.length ≤ 4) : ∀ (f : Nat) (non : Int) (a : Nat) (w : List Int) (p : PT) (w' : List Int), readT rs tree f non a w = some (p, w') → w.length ≤ w'.length ∧ w'.length ≤ w.length + 4 * p.parts.length := by
  intro f
  induction f with
  | zero => intro non a w p w' h; cases h
  | succ f ih =>
    intro non a w p w' h
    unfold readT at h
    split at h
    · rename_i hok
      split at h
      · cases h
      · rename_i ks e w1 hz
        simp only [Option.some.injEq, Prod.mk.injEq] at h
        obtain ⟨rfl, rfl⟩ := h
        have h1 := readR_words ih _ _ _ _ hz
        have h5 : (rgtT rs tree a).length ≤ 4 := by
          simp only [okT, Bool.and_eq_true, decide_eq_true_eq] at hok
          exact h4 _ (by omega)
        simp only [PT.parts, List.length_cons, PT.partsL, List.length_nil] at h1 ⊢
        omega
    · cases h
/-- What the reference tells of a part. -/
def PT.row (p : PT) : List Int := [p.non, p.fin, p.fr, p.to]
def noPT : PT := .mk 0 0 0 0 0 0 []
def ptn (l : List PT) (i : Nat) : PT := l.getD i noPT
end Go.Sh

/- Things that lie apart, in any order; trees of parts in memory. -/
set_option linter.unusedVariables false
set_option linter.unusedSimpArgs false
set_option maxRecDepth 100000
namespace Go.Sh
open Go
/-! ### Order, less, together -/
def Away (a b : Thing) : Prop := ∀ q, a.ft q → ¬ b.ft q
theorem Away.symm {a b : Thing} (h : Away a b) : Away b a := fun q hq hq' => h q hq' hq
theorem apt_pair {L : List Thing} : (∀ (i j : Nat) (a b : Thing), i ≠ j → L[i]? = some a → L[j]? = some b → Away a b) ↔ L.Pairwise Away := by
  induction L with
  | nil => exact ⟨fun _ => .nil, fun _ i j a b _ h => by simp at h⟩
  | cons x L ih =>
    constructor
    · intro h
      refine List.Pairwise.cons (fun y hy => ?_) (ih.1 fun i j a b hij ha hb => h (i + 1) (j + 1) a b (by omega) (by simpa using ha) (by simpa using hb))
      obtain ⟨j, hj⟩ := List.getElem?_of_mem hy
      exact h 0 (j + 1) x y (by omega) rfl (by simpa using hj)
    · intro h i j a b hij ha hb
      obtain ⟨h1, h2⟩ := List.pairwise_cons.1 h
      match i, j with
      | 0, 0 => exact absurd rfl hij
      | 0, j + 1 =>
        obtain rfl : x = a := by simpa using ha
        exact h1 b (List.mem_of_getElem? (by simpa using hb))
      | i + 1, 0 =>
        obtain rfl : x = b := by simpa using hb
        exact (h1 a (List.mem_of_getElem? (by simpa using ha))).symm
      | i + 1, j + 1 => exact ih.2 h2 i j a b (by omega) (by simpa using ha) (by simpa using hb)
theorem Apt.perm {w0 w : World} {L M : List Thing} (H : Apt w0 w L) (p : L.Perm M) : Apt w0 w M := by
  refine ⟨H.gr, fun i it hi => ?_, apt_pair.2 ?_⟩
  · obtain ⟨j, hj⟩ := List.getElem?_of_mem (p.symm.subset (List.mem_of_getElem? hi))
    exact H.ok j it hj
  · exact (p.pairwise_iff fun h => Away.symm h).1 (apt_pair.1 H.two)
/-- The last thing comes to place n. -/
theorem Apt.insert {w0 w : World} {L : List Thing} {x : Thing} (H : Apt w0 w (L ++ [x])) (n : Nat) : Apt w0 w (L.take n ++ x :: L.drop n) := by
  refine H.perm ?_
  have e : L ++ [x] = L.take n ++ (L.drop n ++ [x]) := by rw [← List.append_assoc, List.take_append_drop]
  rw [e]
  exact (List.perm_append_comm (l₁ := L.drop n) (l₂ := [x])).append_left _
theorem Apt.erase {w0 w : World} {L : List Thing} (H : Apt w0 w L) (n : Nat) : Apt w0 w (L.eraseIdx n) := by
  have h : ∀ (i : Nat) (a : Thing), (L.eraseIdx n)[i]? = some a → L[if i < n then i else i + 1]? = some a := fun i a ha => by
    rw [List.getElem?_eraseIdx] at ha
    split at ha
    · rename_i h; rw [if_pos h]; exact ha
    · rename_i h; rw [if_neg h]; exact ha
  refine H.pick (fun i => if i < n then i else i + 1) h fun i j _ _ e => ?_
  split at e <;> split at e <;> omega
theorem Apt.weaken {w0 w : World} {L : List Thing} (H : Apt w0 w L) (i : Nat) {a b : Thing} (hi : L[i]? = some a) (hf : ∀ q, b.ft q → a.ft q) (hp : ∀ w', (∀ q, a.ft q → w'.heap[q]? = w.heap[q]?) → a.P w' → b.P w') (hk : ∀ w' w'', (∀ q, b.ft q → w''.heap[q]? = w'.heap[q]?) → b.P w' → b.P w'') : Apt w0 w (L.set i b) :=
  H.set hi (Gx.refl _ w) (fun q hq => .inl (hf q hq)) (fun q hq => (H.ok i a hi).hi q (hf q hq)) fun w'' h => hk w w'' h (hp w (fun _ _ => rfl) (H.get i hi))
/-! ### Trees of parts -/
abbrev ptrv (b : Nat) : Value := .pointer (some ⟨b, 0, none⟩)
mutual
def PartAt (F : Nat → Prop) (w : World) : PT → Nat → Prop
  | .mk non rule a e f t ks, b => F b ∧ ∃ X c, Box w b [.int .i64 non, .int .i64 rule, .int .i64 a, .int .i64 e, .int .i64 f, .int .i64 t, .slice X ks.length c] 156 ∧ (0 < ks.length → X = some (ad X) ∧ F (ad X).block) ∧ ks.length ≤ c ∧ KidsAt F w ks X 0
def KidsAt (F : Nat → Prop) (w : World) : List PT → Option Addr → Nat → Prop
  | [], _, _ => True
  | k :: ks, X, j => (∃ b, w.cell? ((ad X).add j) = some (ptrv b) ∧ PartAt F w k b) ∧ KidsAt F w ks X (j + 1)
end
mutual
theorem PartAt.gr {F : Nat → Prop} {w w' : World} (g : Gr w w') : (p : PT) → (b : Nat) → PartAt F w p b → PartAt F w' p b
  | .mk non rule a e f t ks, b, h => by
    simp only [PartAt] at h ⊢
    obtain ⟨hb, X, c, h1, h2, h3, h4⟩ := h
    exact ⟨hb, X, c, h1.gr g, h2, h3, KidsAt.gr g ks X 0 h4⟩
theorem KidsAt.gr {F : Nat → Prop} {w w' : World} (g : Gr w w') : (ks : List PT) → (X : Option Addr) → (j : Nat) → KidsAt F w ks X j → KidsAt F w' ks X j
  | [], X, j, _ => by simp only [KidsAt]
  | k :: ks, X, j, h => by
    simp only [KidsAt] at h ⊢
    obtain ⟨⟨b, h1, h2⟩, h3⟩ := h
    exact ⟨⟨b, g.cell h1, PartAt.gr g k b h2⟩, KidsAt.gr g ks X (j + 1) h3⟩
end
mutual
theorem PartAt.same {F : Nat → Prop} {w w' : World} (hs : ∀ q, F q → w'.heap[q]? = w.heap[q]?) : (p : PT) → (b : Nat) → PartAt F w p b → PartAt F w' p b
  | .mk non rule a e f t ks, b, h => by
    simp only [PartAt] at h ⊢
    obtain ⟨hb, X, c, h1, h2, h3, h4⟩ := h
    refine ⟨hb, X, c, (hs b hb).trans h1, h2, h3, ?_⟩
    cases ks with
    | nil => simp only [KidsAt]
    | cons k ks => exact KidsAt.same hs (k :: ks) X 0 (h2 (by simp)).2 h4
theorem KidsAt.same {F : Nat → Prop} {w w' : World} (hs : ∀ q, F q → w'.heap[q]? = w.heap[q]?) : (ks : List PT) → (X : Option Addr) → (j : Nat) → F (ad X).block → KidsAt F w ks X j → KidsAt F w' ks X j
  | [], X, j, _, _ => by simp only [KidsAt]
  | k :: ks, X, j, hX, h => by
    simp only [KidsAt] at h ⊢
    obtain ⟨⟨b, h1, h2⟩, h3⟩ := h
    refine ⟨⟨b, ?_, PartAt.same hs k b h2⟩, KidsAt.same hs ks X (j + 1) hX h3⟩
    rw [World.cell?_of_block (hs _ (by rw [add_block]; exact hX))]
    exact h1
end
mutual
theorem PartAt.mono {F E : Nat → Prop} {w : World} (he : ∀ q, F q → E q) : (p : PT) → (b : Nat) → PartAt F w p b → PartAt E w p b
  | .mk non rule a e f t ks, b, h => by
    simp only [PartAt] at h ⊢
    obtain ⟨hb, X, c, h1, h2, h3, h4⟩ := h
    exact ⟨he _ hb, X, c, h1, fun hp => ⟨(h2 hp).1, he _ (h2 hp).2⟩, h3, KidsAt.mono he ks X 0 h4⟩
theorem KidsAt.mono {F E : Nat → Prop} {w : World} (he : ∀ q, F q → E q) : (ks : List PT) → (X : Option Addr) → (j : Nat) → KidsAt F w ks X j → KidsAt E w ks X j
  | [], X, j, _ => by simp only [KidsAt]
  | k :: ks, X, j, h => by
    simp only [KidsAt] at h ⊢
    obtain ⟨⟨b, h1, h2⟩, h3⟩ := h
    exact ⟨⟨b, h1, PartAt.mono he k b h2⟩, KidsAt.mono he ks X (j + 1) h3⟩
end
theorem KidsAt.get {F : Nat → Prop} {w : World} {X : Option Addr} : ∀ {ks : List PT} {j i : Nat}, KidsAt F w ks X j → i < ks.length → ∃ b, w.cell? ((ad X).add (j + i)) = some (ptrv b) ∧ PartAt F w (ptn ks i) b := by
  intro ks
  induction ks with
  | nil => intro j i _ h; simp at h
  | cons k ks ih =>
    intro j i h hi
    simp only [KidsAt] at h
    cases i with
    | zero => exact h.1
    | succ i =>
      obtain ⟨b, h1, h2⟩ := ih h.2 (by simpa using hi)
      exact ⟨b, by rw [show j + (i + 1) = j + 1 + i from by omega]; exact h1, by simpa [ptn] using h2⟩
/-- What is at a part's place. -/
theorem PartAt.box {F : Nat → Prop} {w : World} {p : PT} {b : Nat} (h : PartAt F w p b) : ∃ X c, Box w b [.int .i64 p.non, .int .i64 p.rule, .int .i64 p.at_, .int .i64 p.fin, .int .i64 p.fr, .int .i64 p.to, .slice X p.kids.length c] 156 ∧ (0 < p.kids.length → X = some (ad X)) ∧ p.kids.length ≤ c ∧ KidsAt F w p.kids X 0 := by
  cases p with
  | mk non rule a e f t ks =>
    simp only [PartAt] at h
    obtain ⟨_, X, c, h1, h2, h3, h4⟩ := h
    exact ⟨X, c, h1, fun hp => (h2 hp).1, h3, h4⟩
/-- Pointers to parts. -/
def AllPt (F : Nat → Prop) (w : World) (ps : List PT) (bs : List Nat) : Prop := bs.length = ps.length ∧ ∀ i, i < ps.length → PartAt F w (ptn ps i) (bs.getD i 0)
theorem AllPt.gr {F : Nat → Prop} {w w' : World} {ps : List PT} {bs : List Nat} (h : AllPt F w ps bs) (g : Gr w w') : AllPt F w' ps bs := ⟨h.1, fun i hi => PartAt.gr g _ _ (h.2 i hi)⟩
theorem AllPt.append {F : Nat → Prop} {w : World} {ps qs : List PT} {bs cs : List Nat} (h : AllPt F w ps bs) (g : AllPt F w qs cs) : AllPt F w (ps ++ qs) (bs ++ cs) := by
  refine ⟨by simp [h.1, g.1], fun i hi => ?_⟩
  by_cases hl : i < ps.length
  · have := h.2 i hl
    have hb := h.1
    simpa [ptn, List.getD_eq_getElem?_getD, List.getElem?_append_left hl, List.getElem?_append_left (show i < bs.length by omega)] using this
  · rw [List.length_append] at hi
    have := g.2 (i - ps.length) (by omega)
    have hb := h.1
    rw [show ptn (ps ++ qs) i = ptn qs (i - ps.length) from by simp [ptn, List.getD_eq_getElem?_getD, List.getElem?_append_right (show ps.length ≤ i by omega)]]
    rw [show (bs ++ cs).getD i 0 = cs.getD (i - ps.length) 0 from by simp [List.getD_eq_getElem?_getD, List.getElem?_append_right (show bs.length ≤ i by omega), hb]]
    exact this
theorem AllPt.one {F : Nat → Prop} {w : World} {p : PT} {b : Nat} (h : PartAt F w p b) : AllPt F w [p] [b] := ⟨rfl, fun i hi => by
  obtain rfl : i = 0 := by simpa using hi
  exact h⟩

/-! ### Building a struct -/
def sizesOK (P : Program) : List Field → List (Nat × Nat) → Prop
  | [], [] => True
  | f :: fs, p :: ps => (f.offset = p.1 ∧ szOf P f.type p.2) ∧ sizesOK P fs ps
  | _, _ => False
theorem run_places {P : Program} (w : World) : ∀ (fs : List Field) (ps : List (Nat × Nat)), sizesOK P fs ps → (fs.mapM (m := Sem) fun f => do pure (f.offset, ← sizeOf f.type)).run P w = .ok ps w := by
  intro fs
  induction fs with
  | nil =>
    intro ps h
    cases ps with
    | nil => rfl
    | cons p ps => exact h.elim
  | cons f fs ih =>
    intro ps h
    cases ps with
    | nil => exact h.elim
    | cons p ps =>
      obtain ⟨⟨h1, h2⟩, h3⟩ := h
      rw [List.mapM_cons]
      simp only [Sem.run_bind, run_size h2, Result.andThen, Sem.run_pure, ih ps h3, h1]
theorem rd_buildN {P : Program} {S : WS} {k : Value → Prop} {t sz by' : Nat} {z : Value} {fs : Array Field} {ps : List (Nat × Nat)} {qs : List (Nat × Value)} {cells : Array Value} (ht : P.underlying t = some (.struct fs)) (H : Inf P t z sz by') (hs : sizesOK P fs.toList ps) (hf : Instr.fill (ps.toArray[·]?) z.cells qs = some cells) : Rd P S (sBuild t qs) k = k (.agg cells) := rd_eq fun w _ => by
  obtain ⟨i, hi, hz, _, _⟩ := H
  have e0 : (zeroValue t).run P w = .ok z w := by simp [zeroValue, run_info hi, hz]
  have e1 : (fs.mapM (m := Sem) fun f => do pure (f.offset, ← sizeOf f.type)).run P w = .ok ps.toArray w := by
    rw [Array.mapM_eq_mapM_toList, Sem.run_map, run_places w fs.toList ps hs]
    rfl
  simp only [sBuild, Instr.build, Sem.run_bind, e0, Result.andThen, run_underlying ht, e1, hf]
  rfl
end Go.Sh
namespace Go.Proofs.Ytegcjkhebecgbaa
open Go Go.Sh
end Go.Proofs.Ytegcjkhebecgbaa

/- From the reading of arguments to what the contracts ask. -/
set_option linter.unusedVariables false
set_option linter.unusedSimpArgs false
set_option maxRecDepth 100000
namespace Go.Sh
open Go Go.ChangeShapes Go.WideShapes Go.ChangeAt Go.RowKit
theorem below_of_gr {w w' : World} (g : Gr w w') : Below w.heap.size w w' := ⟨g.os, g.tape, g.output, g.size, fun k hk => g.block k hk (by simp)⟩
/-- A law's walk, as its row asks for it. -/
theorem walk_of {P : Program} {g : FuncId} {args : List Value} {w : World} (h : ∀ k : Value → World → Prop, (∀ w', Gr w w' → k (.bool true) w') → CallK P g args k w) :
    Calls P g args.toArray w fun e w' => e = .returned (.bool true) ∧ Below w.heap.size w w' :=
  (h (fun v w' => v = .bool true ∧ Gr w w') (fun w' g => ⟨rfl, g⟩)).2.mono fun e w' he => by
    cases e with
    | returned v => exact ⟨by rw [he.1], below_of_gr he.2⟩
    | panicked c => exact he.elim
    | outgrown => exact he.elim

section
variable {H : Type} {enc : TypeId × Value → H} {P : Program} {w : World} {base : Nat} {spare : Nat → Bool} {held : Bool}
end
end Go.Sh

/- Choices read from bytes: operations, bytes that are read, a cursor as a thing. -/
set_option linter.unusedVariables false
set_option linter.unusedSimpArgs false
set_option maxRecDepth 100000
namespace Go.Sh
open Go Go.ChangeAt Go.ChangeShapes Go.WideShapes
section
variable {P : Program} {S : WS} {k : Value → Prop}
theorem bin_shr {t : TypeId} {c : Bool} {kd yk : IntKind} {x y : Int} (hy : 0 ≤ y) : Rd P S (sBin .shr t c (.int kd x) (.int yk y)) k = k (.int kd (x.fdiv (2 ^ (min y.toNat kd.bits)))) := rd_eq fun w _ => by
  simp only [sBin, Sem.run_bind, guard_int, Result.andThen]
  have : ¬ y < 0 := by omega
  simp [binOp, Op.shift, this]
theorem bin_and {t : TypeId} {c : Bool} {kd : IntKind} {x y : Int} : Rd P S (sBin .and t c (.int kd x) (.int kd y)) k = k (.int kd (kd.wrap ((BitVec.ofInt kd.bits x &&& BitVec.ofInt kd.bits y).toNat : Int))) := rd_bin fun w => by
  simp [binOp, Op.intBits]
theorem run_convert {s d : TypeId} {kd kn : IntKind} {n : Int} {ds : TypeDesc} (hs : P.underlying s = some ds) (hd : P.underlying d = some (.int kd)) (w : World) : (sConvert s d (.int kn n)).run P w = .ok (.value (.int kd (kd.wrap n))) w := by
  simp only [sConvert, convert, Sem.run_bind, run_underlying hs, run_underlying hd, Result.andThen]
  cases ds <;> simp [Conv.intToInt]
theorem do_convert {k : Value → World → Prop} {s d : TypeId} {kd kn : IntKind} {n : Int} {ds : TypeDesc} {w : World} (hs : P.underlying s = some ds) (hd : P.underlying d = some (.int kd)) (h : k (.int kd (kd.wrap n)) w) : Do P (sConvert s d (.int kn n)) k w := by
  rw [do_value (run_convert hs hd w)]
  exact h
end
theorem and255 (x : Int) : 0 ≤ IntKind.u64.wrap ((BitVec.ofInt IntKind.u64.bits x &&& BitVec.ofInt IntKind.u64.bits 255).toNat : Int) ∧ IntKind.u64.wrap ((BitVec.ofInt IntKind.u64.bits x &&& BitVec.ofInt IntKind.u64.bits 255).toNat : Int) ≤ 255 := by
  have h : (BitVec.ofInt IntKind.u64.bits x &&& BitVec.ofInt IntKind.u64.bits 255).toNat ≤ 255 := by
    rw [BitVec.toNat_and]
    exact Nat.le_trans Nat.and_le_right (by decide)
  have e : IntKind.u64.wrap ((BitVec.ofInt IntKind.u64.bits x &&& BitVec.ofInt IntKind.u64.bits 255).toNat : Int) = ((BitVec.ofInt IntKind.u64.bits x &&& BitVec.ofInt IntKind.u64.bits 255).toNat : Int) := by
    generalize (BitVec.ofInt IntKind.u64.bits x &&& BitVec.ofInt IntKind.u64.bits 255).toNat = n at *
    simp [IntKind.wrap, IntKind.bits, IntKind.signed]
    omega
  rw [e]
  omega
/-- A slice of bytes that is read. -/
structure Byts (w : World) (X : Option Addr) (bs : List Int) : Prop where
  le : bs.length ≤ 9223372036854775807
  ptr : 0 < bs.length → X = some (ad X)
  cell : ∀ j, j < bs.length → w.cell? ((ad X).add j) = some (.int .u8 (bs.getD j 0))
  small : ∀ j, j < bs.length → 0 ≤ bs.getD j 0 ∧ bs.getD j 0 ≤ 255
theorem Byts.gr {w w' : World} {X : Option Addr} {bs : List Int} (h : Byts w X bs) (g : Gr w w') : Byts w' X bs := ⟨h.le, h.ptr, fun j hj => g.cell (h.cell j hj), h.small⟩
section
variable {H : Type} {enc : TypeId × Value → H} {P : Program} {w : World} {base : Nat} {spare : Nat → Bool} {held : Bool}
theorem wf8 {n : Int} (h : (Lit.int .u8 n).wf = true) : 0 ≤ n ∧ n ≤ 255 := by
  simp [Lit.wf, show IntKind.u8.min = 0 from rfl, show IntKind.u8.max = 255 from rfl] at h
  exact h
theorem read_bytes {t e : TypeId} (ht : P.underlying t = some (.slice e)) (he : P.underlying e = some (.int .u8)) (hc : P.cellsOf e = 1) {fuel : Nat} {cs : List Value} {x : DataW H × List MemPlace}
    (h : DataW.trod enc P w base spare held fuel t cs = some x) : ∃ X n c bs, cs = [.slice X n c] ∧ n = bs.length ∧ n ≤ c ∧ Byts w X bs := by
  rcases open_ints ht he hc h with ⟨hcs, _⟩ | ⟨a, l, c, zs, hcs, _, hl, hm, hz, _, hcell, hwz⟩
  · exact ⟨none, 0, 0, [], hcs, rfl, Nat.le_refl _, by simp, fun h => by simp at h, fun j hj => by simp at hj, fun j hj => by simp at hj⟩
  · have hzl : l ≤ zs.length := by rw [hz]; split <;> omega
    have hget : ∀ j, j < (zs.take l).length → j < zs.length ∧ (zs.take l).getD j 0 = zs.getD j 0 := fun j hj => by
      have hj' : j < l ∧ j < zs.length := by simp at hj; omega
      exact ⟨hj'.2, by simp [List.getD_eq_getElem?_getD, List.getElem?_take, hj'.1]⟩
    refine ⟨some a, l, c, zs.take l, hcs, by simp; omega, hl, ?_, fun _ => rfl, fun j hj => ?_, fun j hj => ?_⟩
    · unfold maxLen at hm
      simp
      omega
    · obtain ⟨h1, h2⟩ := hget j hj
      rw [show (ad (some a)).add j = a.add j from rfl, hcell j h1, h2]
    · obtain ⟨h1, h2⟩ := hget j hj
      rw [h2]
      refine wf8 (hwz _ ?_)
      rw [List.getD_eq_getElem?_getD, List.getElem?_eq_getElem h1]
      exact List.getElem_mem h1
theorem trod_bytes {t e : TypeId} {v : Value} {d : DataW H} {p : List MemPlace} (ht : P.underlying t = some (.slice e)) (he : P.underlying e = some (.int .u8)) (hc : P.cellsOf e = 1)
    (h : DataW.Trod enc P w base spare held t v d p) : ∃ X n c bs, v.cells.toList = [.slice X n c] ∧ n = bs.length ∧ n ≤ c ∧ Byts w X bs := by
  obtain ⟨fuel, hf⟩ := h
  exact read_bytes ht he hc hf
end
/-- A cursor: it has gone N steps at most. -/
def curi (tc bc : Nat) (cv : Value) (N : Nat) : Thing := ⟨fun w => ∃ a s : Int, 0 ≤ a ∧ a ≤ N ∧ Box w bc [cv, .int .i64 a, .int .u64 s] tc, fun q => q = bc⟩
section
variable {w0 w : World} {L : List Thing} {tc bc N : Nat} {cv : Value}
theorem Apt.openCur (H : Apt w0 w L) (i : Nat) (hi : L[i]? = some (curi tc bc cv N)) : ∃ a s : Int, 0 ≤ a ∧ a ≤ N ∧ Apt w0 w (L.set i (bx bc [cv, .int .i64 a, .int .u64 s] tc)) := by
  obtain ⟨a, s, h1, h2, h3⟩ := H.get i hi
  exact ⟨a, s, h1, h2, H.set hi (it' := bx bc [cv, .int .i64 a, .int .u64 s] tc) (Gx.refl _ w) (fun q hq => .inl hq) (fun q hq => (H.ok i _ hi).hi q hq) (bx_kept h3)⟩
theorem Apt.shutCur (H : Apt w0 w L) (i : Nat) {a s : Int} (hi : L[i]? = some (bx bc [cv, .int .i64 a, .int .u64 s] tc)) (h1 : 0 ≤ a) (h2 : a ≤ N) : Apt w0 w (L.set i (curi tc bc cv N)) :=
  H.weaken i hi (fun q hq => hq) (fun w' _ hb => ⟨a, s, h1, h2, hb⟩) fun w' w'' hs ⟨a, s, h1, h2, h3⟩ => ⟨a, s, h1, h2, bx_kept h3 w'' hs⟩
end
end Go.Sh

/- Ca: bodies of functions as terms of the frame calculus, printed by shgen.py of this repository. -/
set_option linter.unusedVariables false
set_option maxRecDepth 100000
namespace Go.Proofs.Ytegcjkhebecgbaa
open Go Go.Sh

/-! (*loop.example/g00758/spec.l1Cur).next -/
def pl247 : Plans := fun i => match i with
  | 2 => ⟨false, [], .step 0 .any (.step 1 .any (.step 2 .any (.step 3 .held (.step 4 .any (.step 5 .any (.step 6 .any (.step 7 .held (.step 8 .any (.step 9 .any (.nil))))))))))⟩
  | 3 => ⟨false, [10], .step 0 .any (.step 1 .any (.step 2 .any (.step 3 .held (.step 4 .any (.step 5 .any (.step 6 .any (.step 7 .held (.step 8 .any (.step 9 .held (.step 10 .last (.step 11 .any (.nil))))))))))))⟩
  | 6 => ⟨false, [], .step 0 .any (.step 1 .any (.step 2 .any (.step 3 .held (.step 4 .any (.step 5 .any (.step 6 .any (.step 7 .held (.step 8 .any (.step 9 .any (.nil))))))))))⟩
  | _ => ⟨false, [], .nil⟩
def S247 (v0 : Value) (k : Value → World → Prop) (w : World) : Prop :=
 Join (fun K1 =>
 Rd Try.prog WS.any (sNilCheck v0) fun t4 =>
 Rd Try.prog WS.any (sFieldAddr 114 t4 1) fun t5 =>
 Rd Try.prog (WS.at w.drew) (sLoad 3 t5) fun t6 =>
 Rd Try.prog WS.any (sNilCheck v0) fun t7 =>
 Rd Try.prog WS.any (sFieldAddr 114 t7 0) fun t8 =>
 Rd Try.prog (WS.at w.drew) (sLoad 22 t8) fun t9 =>
 Rd Try.prog WS.any (sBuiltin .len #[22] 3 [false] [t9]) fun t10 =>
 Rd Try.prog WS.any (sBin .lss 3 false t6 t10) fun t11 =>
 CondK t11
  (Rd Try.prog WS.any (sNilCheck v0) fun t12 =>
  Rd Try.prog WS.any (sFieldAddr 114 t12 0) fun t13 =>
  Rd Try.prog (WS.at w.drew.drew) (sLoad 22 t13) fun t14 =>
  Rd Try.prog WS.any (sNilCheck v0) fun t15 =>
  Rd Try.prog WS.any (sFieldAddr 114 t15 1) fun t16 =>
  Rd Try.prog (WS.at w.drew.drew) (sLoad 3 t16) fun t17 =>
  Rd Try.prog WS.any (sIndexAddr 22 t14 t17) fun t18 =>
  Rd Try.prog (WS.at w.drew.drew) (sLoad 5 t18) fun t19 =>
  Do Try.prog (sConvert 5 3 t19) (fun t20 w21 =>
  K1 (F.upd (F.upd (F.upd (F.upd (F.upd (F.upd (F.upd (F.upd (F.upd (F.upd (F.upd (F.upd (F.upd (F.upd (F.upd (F.upd (F.upd (F.upd (F.upd (F.upd (F.upd (F.upd (F.upd (F.upd (initF [v0]) 2 (.int .i64 0)) 3 (.int .i64 0)) 4 v0) 5 t4) 6 t5) 7 t6) 8 v0) 9 t7) 10 t8) 11 t9) 12 t10) 13 t11) 14 v0) 15 t12) 16 t13) 17 t14) 18 v0) 19 t15) 20 t16) 21 t17) 22 t18) 23 t19) 24 t20) 3 t20) w21) w.drew.drew)
  (K1 (F.upd (F.upd (F.upd (F.upd (F.upd (F.upd (F.upd (F.upd (F.upd (F.upd (F.upd (F.upd (initF [v0]) 2 (.int .i64 0)) 3 (.int .i64 0)) 4 v0) 5 t4) 6 t5) 7 t6) 8 v0) 9 t7) 10 t8) 11 t9) 12 t10) 13 t11) w.drew)) (fun f2 w3 =>
 Rd Try.prog (WS.at w3) (sNilCheck (f2 0)) fun t22 =>
 Rd Try.prog (WS.at w3) (sFieldAddr 114 t22 1) fun t23 =>
 Rd Try.prog (WS.at w3) (sLoad 3 t23) fun t24 =>
 Rd Try.prog (WS.at w3) (sBin .add 3 true t24 (.int .i64 1)) fun t25 =>
 Rd Try.prog (WS.at w3) (sNilCheck (f2 0)) fun t26 =>
 Rd Try.prog (WS.at w3) (sFieldAddr 114 t26 1) fun t27 =>
 Do Try.prog (sStore 3 t27 t25) (fun _ w28 =>
 Rd Try.prog (WS.at w28) (sNilCheck (f2 0)) fun t29 =>
 Rd Try.prog (WS.at w28) (sFieldAddr 114 t29 2) fun t30 =>
 Rd Try.prog (WS.at w28) (sLoad 112 t30) fun t31 =>
 Rd Try.prog (WS.at w28) (sBin .mul 112 true t31 (.int .u64 6364136223846793005)) fun t32 =>
 Do Try.prog (sConvert 3 112 (f2 3)) (fun t33 w34 =>
 Rd Try.prog (WS.at w34) (sBin .add 112 false t32 t33) fun t35 =>
 Rd Try.prog (WS.at w34) (sBin .add 112 true t35 (.int .u64 1442695040888963407)) fun t36 =>
 Rd Try.prog (WS.at w34) (sNilCheck (f2 0)) fun t37 =>
 Rd Try.prog (WS.at w34) (sFieldAddr 114 t37 2) fun t38 =>
 Do Try.prog (sStore 112 t38 t36) (fun _ w39 =>
 Rd Try.prog WS.any (sNilCheck (f2 0)) fun t40 =>
 Rd Try.prog WS.any (sFieldAddr 114 t40 1) fun t41 =>
 Rd Try.prog (WS.at w39.drew) (sLoad 3 t41) fun t42 =>
 Rd Try.prog WS.any (sNilCheck (f2 0)) fun t43 =>
 Rd Try.prog WS.any (sFieldAddr 114 t43 0) fun t44 =>
 Rd Try.prog (WS.at w39.drew) (sLoad 22 t44) fun t45 =>
 Rd Try.prog WS.any (sBuiltin .len #[22] 3 [false] [t45]) fun t46 =>
 Rd Try.prog WS.any (sBin .leq 3 false t42 t46) fun t47 =>
 CondK t47
  (k (f2 3) w39.drew)
  (Rd Try.prog (WS.at w39.drew) (sNilCheck (f2 0)) fun t48 =>
  Rd Try.prog (WS.at w39.drew) (sFieldAddr 114 t48 2) fun t49 =>
  Rd Try.prog (WS.at w39.drew) (sLoad 112 t49) fun t50 =>
  Rd Try.prog (WS.at w39.drew) (sBin .shr 112 true t50 (.int .u64 40)) fun t51 =>
  Rd Try.prog (WS.at w39.drew) (sBin .and 112 true t51 (.int .u64 255)) fun t52 =>
  Do Try.prog (sConvert 112 3 t52) (fun t53 w54 =>
  k t53 w54) w39.drew)) w34) w28) w3)
theorem body247 : Try.f247.body = some (bodyOf Try.f247) := by kernel_rfl
theorem same247 (v0 : Value) (k : Value → World → Prop) (w : World) : wpF Try.prog pl247 (bodyOf Try.f247) (bodyQ Try.prog Try.f247.results.toList k) (initF [v0]) w = S247 v0 k w := by kernel_rfl
theorem enter247 {v0 : Value} {k : Value → World → Prop} {w : World} (h : S247 v0 k w) : CallK Try.prog 247 [v0] k w :=
  call_of_wpF (pl := pl247) mixed Try.func247 body247 (by kernel_rfl) (of_decide_eq_true (by kernel_rfl)) (by kernel_rfl) (by kernel_rfl) (same247 v0 k w ▸ h)

/-! (*loop.example/g00758/spec.l1Cur).pick -/
def pl146 : Plans := fun _ => ⟨false, [], .nil⟩
def S146 (v0 v1 : Value) (k : Value → World → Prop) (w : World) : Prop :=
 Rd Try.prog (WS.at w) (sBin .leq 3 true v1 (.int .i64 1)) fun t1 =>
 CondK t1
  (k (.int .i64 0) w)
  (CallK Try.prog 247 [v0] (fun t2 w3 =>
  Join (fun K4 =>
  Rd Try.prog (WS.at w3) (sBin .gtr 3 true v1 (.int .i64 200)) fun t7 =>
  CondK t7
   (Rd Try.prog (WS.at w3) (sBin .mul 3 true t2 (.int .i64 256)) fun t8 =>
   CallK Try.prog 247 [v0] (fun t9 w10 =>
   Rd Try.prog (WS.at w10) (sBin .add 3 false t8 t9) fun t11 =>
   K4 (F.upd (F.upd (F.upd (F.upd (F.upd (F.upd (F.upd (F.upd (F.upd (F.upd (F.upd (F.upd (F.upd (F.upd (initF [v0, v1]) 4 (.int .i64 0)) 6 v1) 7 t1) 8 v0) 9 t2) 5 t2) 10 v1) 11 t7) 12 t2) 13 t8) 14 v0) 15 t9) 16 t11) 5 t11) w10) w3)
   (K4 (F.upd (F.upd (F.upd (F.upd (F.upd (F.upd (F.upd (F.upd (initF [v0, v1]) 4 (.int .i64 0)) 6 v1) 7 t1) 8 v0) 9 t2) 5 t2) 10 v1) 11 t7) w3)) (fun f5 w6 =>
  Rd Try.prog (WS.at w6) (sBin .rem 3 false (f5 5) (f5 1)) fun t12 =>
  k t12 w6)) w)
theorem body146 : Try.f146.body = some (bodyOf Try.f146) := by kernel_rfl
theorem same146 (v0 v1 : Value) (k : Value → World → Prop) (w : World) : wpF Try.prog pl146 (bodyOf Try.f146) (bodyQ Try.prog Try.f146.results.toList k) (initF [v0, v1]) w = S146 v0 v1 k w := by kernel_rfl
theorem enter146 {v0 v1 : Value} {k : Value → World → Prop} {w : World} (h : S146 v0 v1 k w) : CallK Try.prog 146 [v0, v1] k w :=
  call_of_wpF (pl := pl146) mixed Try.func146 body146 (by kernel_rfl) (of_decide_eq_true (by kernel_rfl)) (by kernel_rfl) (by kernel_rfl) (same146 v0 v1 k w ▸ h)

/-! (*loop.example/g00758/spec.l1Cur).one -/
def pl176 : Plans := fun _ => ⟨false, [], .nil⟩
def S176 (v0 v1 : Value) (k : Value → World → Prop) (w : World) : Prop :=
 CallK Try.prog 146 [v0, v1] (fun t1 w2 =>
 Rd Try.prog (WS.at w2) (sBin .eql 3 true t1 (.int .i64 0)) fun t3 =>
 k t3 w2) w
theorem body176 : Try.f176.body = some (bodyOf Try.f176) := by kernel_rfl
theorem same176 (v0 v1 : Value) (k : Value → World → Prop) (w : World) : wpF Try.prog pl176 (bodyOf Try.f176) (bodyQ Try.prog Try.f176.results.toList k) (initF [v0, v1]) w = S176 v0 v1 k w := by kernel_rfl
theorem enter176 {v0 v1 : Value} {k : Value → World → Prop} {w : World} (h : S176 v0 v1 k w) : CallK Try.prog 176 [v0, v1] k w :=
  call_of_wpF (pl := pl176) mixed Try.func176 body176 (by kernel_rfl) (of_decide_eq_true (by kernel_rfl)) (by kernel_rfl) (by kernel_rfl) (same176 v0 v1 k w ▸ h)

/-! (*loop.example/g00758/spec.l1Cur).among -/
def pl156 : Plans := fun _ => ⟨false, [], .nil⟩
def S156 (v0 v1 : Value) (k : Value → World → Prop) (w : World) : Prop :=
 Rd Try.prog (WS.at w) (sBuiltin .len #[27] 3 [false] [v1]) fun t1 =>
 CallK Try.prog 146 [v0, t1] (fun t2 w3 =>
 Rd Try.prog (WS.at w3) (sIndexAddr 27 v1 t2) fun t4 =>
 Rd Try.prog (WS.at w3) (sLoad 3 t4) fun t5 =>
 k t5 w3) w
theorem body156 : Try.f156.body = some (bodyOf Try.f156) := by kernel_rfl
theorem same156 (v0 v1 : Value) (k : Value → World → Prop) (w : World) : wpF Try.prog pl156 (bodyOf Try.f156) (bodyQ Try.prog Try.f156.results.toList k) (initF [v0, v1]) w = S156 v0 v1 k w := by kernel_rfl
theorem enter156 {v0 v1 : Value} {k : Value → World → Prop} {w : World} (h : S156 v0 v1 k w) : CallK Try.prog 156 [v0, v1] k w :=
  call_of_wpF (pl := pl156) mixed Try.func156 body156 (by kernel_rfl) (of_decide_eq_true (by kernel_rfl)) (by kernel_rfl) (by kernel_rfl) (same156 v0 v1 k w ▸ h)

/-! (*loop.example/g00758/spec.l1Cur).known -/
def pl303 : Plans := fun _ => ⟨false, [], .nil⟩
def S303 (v0 : Value) (k : Value → World → Prop) (w : World) : Prop :=
 Do Try.prog (sAlloc 26) (fun t1 w2 =>
 CallK Try.prog 146 [v0, (.int .i64 8)] (fun t3 w4 =>
 Rd Try.prog (WS.at w4) (sBin .eql 3 true t3 (.int .i64 0)) fun t5 =>
 CondK t5
  (Do Try.prog (sBuildSlice 27 3 [(0, (.int .i64 (-1))), (1, (.int .i64 0)), (2, (.int .i64 (-2)))]) (fun t6 w7 =>
  Rd Try.prog (WS.at w7) (sBuild 33 [(1, t6)]) fun t8 =>
  Rd Try.prog (WS.at w7) (sBuild 33 []) fun t9 =>
  Do Try.prog (sBuildSlice 24 2 [(0, t8), (1, t9)]) (fun t10 w11 =>
  Rd Try.prog (WS.at w11) (sBuild 26 [(0, (.int .i64 1)), (1, (.int .i64 2)), (2, t10)]) fun t12 =>
  Do Try.prog (sStore 26 t1 t12) (fun _ w13 =>
  Rd Try.prog (WS.at w13) (sLoadVar 26 t1) fun t14 => k t14 w13) w11) w7) w4)
  (Rd Try.prog (WS.at w4) (sBin .eql 3 true t3 (.int .i64 1)) fun t15 =>
  CondK t15
   (Do Try.prog (sBuildSlice 27 2 [(0, (.int .i64 0)), (1, (.int .i64 0))]) (fun t16 w17 =>
   Rd Try.prog (WS.at w17) (sBuild 33 [(1, t16)]) fun t18 =>
   Do Try.prog (sBuildSlice 27 3 [(0, (.int .i64 (-1))), (1, (.int .i64 0)), (2, (.int .i64 (-2)))]) (fun t19 w20 =>
   Rd Try.prog (WS.at w20) (sBuild 33 [(1, t19)]) fun t21 =>
   Do Try.prog (sBuildSlice 27 2 [(0, (.int .i64 (-1))), (1, (.int .i64 (-2)))]) (fun t22 w23 =>
   Rd Try.prog (WS.at w23) (sBuild 33 [(1, t22)]) fun t24 =>
   Do Try.prog (sBuildSlice 24 3 [(0, t18), (1, t21), (2, t24)]) (fun t25 w26 =>
   Rd Try.prog (WS.at w26) (sBuild 26 [(0, (.int .i64 1)), (1, (.int .i64 2)), (2, t25)]) fun t27 =>
   Do Try.prog (sStore 26 t1 t27) (fun _ w28 =>
   Rd Try.prog (WS.at w28) (sLoadVar 26 t1) fun t29 => k t29 w28) w26) w23) w20) w17) w4)
   (Rd Try.prog (WS.at w4) (sBin .eql 3 true t3 (.int .i64 2)) fun t30 =>
   CondK t30
    (Do Try.prog (sBuildSlice 27 3 [(0, (.int .i64 0)), (1, (.int .i64 (-3))), (2, (.int .i64 1))]) (fun t31 w32 =>
    Rd Try.prog (WS.at w32) (sBuild 33 [(1, t31)]) fun t33 =>
    Do Try.prog (sBuildSlice 27 1 [(0, (.int .i64 1))]) (fun t34 w35 =>
    Rd Try.prog (WS.at w35) (sBuild 33 [(1, t34)]) fun t36 =>
    Do Try.prog (sBuildSlice 27 1 [(0, (.int .i64 (-1)))]) (fun t37 w38 =>
    Rd Try.prog (WS.at w38) (sBuild 33 [(0, (.int .i64 1)), (1, t37)]) fun t39 =>
    Do Try.prog (sBuildSlice 27 3 [(0, (.int .i64 (-2))), (1, (.int .i64 0)), (2, (.int .i64 (-2)))]) (fun t40 w41 =>
    Rd Try.prog (WS.at w41) (sBuild 33 [(0, (.int .i64 1)), (1, t40)]) fun t42 =>
    Do Try.prog (sBuildSlice 24 4 [(0, t33), (1, t36), (2, t39), (3, t42)]) (fun t43 w44 =>
    Rd Try.prog (WS.at w44) (sBuild 26 [(0, (.int .i64 2)), (1, (.int .i64 3)), (2, t43)]) fun t45 =>
    Do Try.prog (sStore 26 t1 t45) (fun _ w46 =>
    Rd Try.prog (WS.at w46) (sLoadVar 26 t1) fun t47 => k t47 w46) w44) w41) w38) w35) w32) w4)
    (Rd Try.prog (WS.at w4) (sBin .eql 3 true t3 (.int .i64 3)) fun t48 =>
    CondK t48
     (Do Try.prog (sBuildSlice 27 2 [(0, (.int .i64 (-1))), (1, (.int .i64 1))]) (fun t49 w50 =>
     Rd Try.prog (WS.at w50) (sBuild 33 [(1, t49)]) fun t51 =>
     Do Try.prog (sBuildSlice 27 2 [(0, (.int .i64 (-2))), (1, (.int .i64 1))]) (fun t52 w53 =>
     Rd Try.prog (WS.at w53) (sBuild 33 [(0, (.int .i64 1)), (1, t52)]) fun t54 =>
     Do Try.prog (sBuildSlice 27 1 [(0, (.int .i64 (-2)))]) (fun t55 w56 =>
     Rd Try.prog (WS.at w56) (sBuild 33 [(0, (.int .i64 1)), (1, t55)]) fun t57 =>
     Rd Try.prog (WS.at w56) (sBuild 33 [(0, (.int .i64 1))]) fun t58 =>
     Do Try.prog (sBuildSlice 24 4 [(0, t51), (1, t54), (2, t57), (3, t58)]) (fun t59 w60 =>
     Rd Try.prog (WS.at w60) (sBuild 26 [(0, (.int .i64 2)), (1, (.int .i64 2)), (2, t59)]) fun t61 =>
     Do Try.prog (sStore 26 t1 t61) (fun _ w62 =>
     Rd Try.prog (WS.at w62) (sLoadVar 26 t1) fun t63 => k t63 w62) w60) w56) w53) w50) w4)
     (Rd Try.prog (WS.at w4) (sBin .eql 3 true t3 (.int .i64 4)) fun t64 =>
     CondK t64
      (Do Try.prog (sBuildSlice 27 1 [(0, (.int .i64 0))]) (fun t65 w66 =>
      Rd Try.prog (WS.at w66) (sBuild 33 [(1, t65)]) fun t67 =>
      Do Try.prog (sBuildSlice 27 1 [(0, (.int .i64 1))]) (fun t68 w69 =>
      Rd Try.prog (WS.at w69) (sBuild 33 [(1, t68)]) fun t70 =>
      Do Try.prog (sBuildSlice 27 2 [(0, (.int .i64 0)), (1, (.int .i64 1))]) (fun t71 w72 =>
      Rd Try.prog (WS.at w72) (sBuild 33 [(0, (.int .i64 1)), (1, t71)]) fun t73 =>
      Do Try.prog (sBuildSlice 27 1 [(0, (.int .i64 (-1)))]) (fun t74 w75 =>
      Rd Try.prog (WS.at w75) (sBuild 33 [(0, (.int .i64 1)), (1, t74)]) fun t76 =>
      Rd Try.prog (WS.at w75) (sBuild 33 [(0, (.int .i64 1))]) fun t77 =>
      Do Try.prog (sBuildSlice 24 5 [(0, t67), (1, t70), (2, t73), (3, t76), (4, t77)]) (fun t78 w79 =>
      Rd Try.prog (WS.at w79) (sBuild 26 [(0, (.int .i64 2)), (1, (.int .i64 1)), (2, t78)]) fun t80 =>
      Do Try.prog (sStore 26 t1 t80) (fun _ w81 =>
      Rd Try.prog (WS.at w81) (sLoadVar 26 t1) fun t82 => k t82 w81) w79) w75) w72) w69) w66) w4)
      (Rd Try.prog (WS.at w4) (sBin .eql 3 true t3 (.int .i64 5)) fun t83 =>
      CondK t83
       (Do Try.prog (sBuildSlice 27 3 [(0, (.int .i64 (-1))), (1, (.int .i64 0)), (2, (.int .i64 (-1)))]) (fun t84 w85 =>
       Rd Try.prog (WS.at w85) (sBuild 33 [(1, t84)]) fun t86 =>
       Do Try.prog (sBuildSlice 27 3 [(0, (.int .i64 (-2))), (1, (.int .i64 0)), (2, (.int .i64 (-2)))]) (fun t87 w88 =>
       Rd Try.prog (WS.at w88) (sBuild 33 [(1, t87)]) fun t89 =>
       Do Try.prog (sBuildSlice 27 1 [(0, (.int .i64 (-1)))]) (fun t90 w91 =>
       Rd Try.prog (WS.at w91) (sBuild 33 [(1, t90)]) fun t92 =>
       Do Try.prog (sBuildSlice 27 1 [(0, (.int .i64 (-2)))]) (fun t93 w94 =>
       Rd Try.prog (WS.at w94) (sBuild 33 [(1, t93)]) fun t95 =>
       Rd Try.prog (WS.at w94) (sBuild 33 []) fun t96 =>
       Do Try.prog (sBuildSlice 24 5 [(0, t86), (1, t89), (2, t92), (3, t95), (4, t96)]) (fun t97 w98 =>
       Rd Try.prog (WS.at w98) (sBuild 26 [(0, (.int .i64 1)), (1, (.int .i64 2)), (2, t97)]) fun t99 =>
       Do Try.prog (sStore 26 t1 t99) (fun _ w100 =>
       Rd Try.prog (WS.at w100) (sLoadVar 26 t1) fun t101 => k t101 w100) w98) w94) w91) w88) w85) w4)
       (Rd Try.prog (WS.at w4) (sBin .eql 3 true t3 (.int .i64 6)) fun t102 =>
       CondK t102
        (Do Try.prog (sBuildSlice 27 2 [(0, (.int .i64 1)), (1, (.int .i64 2))]) (fun t103 w104 =>
        Rd Try.prog (WS.at w104) (sBuild 33 [(1, t103)]) fun t105 =>
        Do Try.prog (sBuildSlice 27 2 [(0, (.int .i64 (-1))), (1, (.int .i64 1))]) (fun t106 w107 =>
        Rd Try.prog (WS.at w107) (sBuild 33 [(0, (.int .i64 1)), (1, t106)]) fun t108 =>
        Rd Try.prog (WS.at w107) (sBuild 33 [(0, (.int .i64 1))]) fun t109 =>
        Do Try.prog (sBuildSlice 27 2 [(0, (.int .i64 (-2))), (1, (.int .i64 2))]) (fun t110 w111 =>
        Rd Try.prog (WS.at w111) (sBuild 33 [(0, (.int .i64 2)), (1, t110)]) fun t112 =>
        Rd Try.prog (WS.at w111) (sBuild 33 [(0, (.int .i64 2))]) fun t113 =>
        Do Try.prog (sBuildSlice 24 5 [(0, t105), (1, t108), (2, t109), (3, t112), (4, t113)]) (fun t114 w115 =>
        Rd Try.prog (WS.at w115) (sBuild 26 [(0, (.int .i64 3)), (1, (.int .i64 2)), (2, t114)]) fun t116 =>
        Do Try.prog (sStore 26 t1 t116) (fun _ w117 =>
        Rd Try.prog (WS.at w117) (sLoadVar 26 t1) fun t118 => k t118 w117) w115) w111) w107) w104) w4)
        (Do Try.prog (sBuildSlice 27 2 [(0, (.int .i64 0)), (1, (.int .i64 0))]) (fun t119 w120 =>
        Rd Try.prog (WS.at w120) (sBuild 33 [(1, t119)]) fun t121 =>
        Do Try.prog (sBuildSlice 27 1 [(0, (.int .i64 (-1)))]) (fun t122 w123 =>
        Rd Try.prog (WS.at w123) (sBuild 33 [(1, t122)]) fun t124 =>
        Do Try.prog (sBuildSlice 27 2 [(0, (.int .i64 (-2))), (1, (.int .i64 1))]) (fun t125 w126 =>
        Rd Try.prog (WS.at w126) (sBuild 33 [(0, (.int .i64 1)), (1, t125)]) fun t127 =>
        Do Try.prog (sBuildSlice 24 3 [(0, t121), (1, t124), (2, t127)]) (fun t128 w129 =>
        Rd Try.prog (WS.at w129) (sBuild 26 [(0, (.int .i64 2)), (1, (.int .i64 2)), (2, t128)]) fun t130 =>
        Do Try.prog (sStore 26 t1 t130) (fun _ w131 =>
        Rd Try.prog (WS.at w131) (sLoadVar 26 t1) fun t132 => k t132 w131) w129) w126) w123) w120) w4)))))))) w2) w
theorem body303 : Try.f303.body = some (bodyOf Try.f303) := by kernel_rfl
theorem same303 (v0 : Value) (k : Value → World → Prop) (w : World) : wpF Try.prog pl303 (bodyOf Try.f303) (bodyQ Try.prog Try.f303.results.toList k) (initF [v0]) w = S303 v0 k w := by kernel_rfl
theorem enter303 {v0 : Value} {k : Value → World → Prop} {w : World} (h : S303 v0 k w) : CallK Try.prog 303 [v0] k w :=
  call_of_wpF (pl := pl303) mixed Try.func303 body303 (by kernel_rfl) (of_decide_eq_true (by kernel_rfl)) (by kernel_rfl) (by kernel_rfl) (same303 v0 k w ▸ h)

/-! loop.example/g00758/spec.l1Put2 -/
def pl304 : Plans := fun _ => ⟨false, [], .nil⟩
def S304 (v0 v1 : Value) (k : Value → World → Prop) (w : World) : Prop :=
 Do Try.prog (sBox 33 v1) (fun t1 w2 =>
 Rd Try.prog (WS.at w2) (sBuiltin .len #[24] 3 [false] [v0]) fun t3 =>
 LoopF [10, 11, 12, 6, 13, 14, 15, 16, 4, 17, 9] (fun Q4 f5 w6 =>
  Rd Try.prog (WS.at w6) (sBin .lss 3 false (f5 9) (f5 8)) fun t7 =>
  CondK t7
   (Rd Try.prog (WS.at w6) (sIndexAddr 24 (f5 7) (f5 9)) fun t8 =>
   Rd Try.prog (WS.at w6) (sLoad 33 t8) fun t9 =>
   Do Try.prog (sAlloc 33) (fun t10 w11 =>
   Do Try.prog (sStore 33 t10 t9) (fun _ w12 =>
   Rd Try.prog (WS.at w12) (sLoad 33 (f5 3)) fun t13 =>
   Rd Try.prog (WS.at w12) (sLoad 33 t10) fun t14 =>
   CallK Try.prog 239 [t13, t14] (fun t15 w16 =>
   CondK t15
    (Q4 .ret (F.upd (F.upd (F.upd (F.upd (F.upd (F.upd (F.upd (F.upd (F.upd f5 10 t7) 11 t8) 12 t9) 6 t10) 13 t13) 14 t14) 15 t15) 16 (f5 0)) 4 (f5 0)) w16)
    (Rd Try.prog (WS.at w16) (sBin .add 3 true (f5 9) (.int .i64 1)) fun t17 =>
    Q4 .normal (F.upd (F.upd (F.upd (F.upd (F.upd (F.upd (F.upd (F.upd (F.upd f5 10 t7) 11 t8) 12 t9) 6 t10) 13 t13) 14 t14) 15 t15) 17 t17) 9 t17) w16)) w12) w11) w6)
   (Q4 (.exit 0) (F.upd f5 10 t7) w6))
  (blockQ 0 (seqQ (fun f18 w19 =>
 Rd Try.prog (WS.at w19) (sLoad 33 (f18 3)) fun t20 =>
 Do Try.prog (sBuildSlice 24 1 [(0, t20)]) (fun t21 w22 =>
 Do Try.prog (sBuiltin .append #[24, 24] 24 [false, false] [(f18 0), t21]) (fun t23 w24 =>
 k t23 w24) w22) w19) (bodyQ Try.prog [.tmp 4] k)))
  (F.upd (F.upd (F.upd (F.upd (F.upd (initF [v0, v1]) 3 t1) 4 (.slice none 0 0)) 7 v0) 8 t3) 9 (.int .i64 0)) w2) w
theorem body304 : Try.f304.body = some (bodyOf Try.f304) := by kernel_rfl
theorem same304 (v0 v1 : Value) (k : Value → World → Prop) (w : World) : wpF Try.prog pl304 (bodyOf Try.f304) (bodyQ Try.prog Try.f304.results.toList k) (initF [v0, v1]) w = S304 v0 v1 k w := by kernel_rfl
theorem enter304 {v0 v1 : Value} {k : Value → World → Prop} {w : World} (h : S304 v0 v1 k w) : CallK Try.prog 304 [v0, v1] k w :=
  call_of_wpF (pl := pl304) mixed Try.func304 body304 (by kernel_rfl) (of_decide_eq_true (by kernel_rfl)) (by kernel_rfl) (by kernel_rfl) (same304 v0 v1 k w ▸ h)

/-! (*loop.example/g00758/spec.l1Cur).grammar -/
def pl246 : Plans := fun _ => ⟨false, [], .nil⟩
def S246 (v0 : Value) (k : Value → World → Prop) (w : World) : Prop :=
 Do Try.prog (sAlloc 26) (fun t1 w2 =>
 CallK Try.prog 176 [v0, (.int .i64 2)] (fun t3 w4 =>
 CondK t3
  (CallK Try.prog 303 [v0] (fun t5 w6 =>
  Do Try.prog (sStore 26 t1 t5) (fun _ w7 =>
  Rd Try.prog (WS.at w7) (sLoadVar 26 t1) fun t8 => k t8 w7) w6) w4)
  (CallK Try.prog 146 [v0, (.int .i64 3)] (fun t9 w10 =>
  Rd Try.prog (WS.at w10) (sBin .add 3 true (.int .i64 1) t9) fun t11 =>
  CallK Try.prog 146 [v0, (.int .i64 2)] (fun t12 w13 =>
  Rd Try.prog (WS.at w13) (sBin .add 3 true (.int .i64 1) t12) fun t14 =>
  Rd Try.prog (WS.at w13) (sBuild 26 [(0, t11), (1, t14)]) fun t15 =>
  Do Try.prog (sAlloc 26) (fun t16 w17 =>
  Do Try.prog (sStore 26 t16 t15) (fun _ w18 =>
  CallK Try.prog 146 [v0, (.int .i64 6)] (fun t19 w20 =>
  Rd Try.prog (WS.at w20) (sBin .add 3 true (.int .i64 1) t19) fun t21 =>
  LoopF [22, 23, 26, 27, 28, 29, 30, 5, 31, 32, 6, 33, 34, 37, 38, 39, 40, 7, 41, 42, 43, 44, 45, 46, 47, 7, 48, 49, 50, 51, 52, 53, 35, 36, 6, 54, 55, 56, 57, 58, 24, 25, 4] (fun Q22 f23 w24 =>
   Rd Try.prog (WS.at w24) (sBin .gtr 3 true (f23 4) (.int .i64 0)) fun t25 =>
   CondK t25
    (Rd Try.prog (WS.at w24) (sFieldAddr 26 (f23 3) 0) fun t26 =>
    Rd Try.prog (WS.at w24) (sLoad 3 t26) fun t27 =>
    CallK Try.prog 146 [(f23 0), t27] (fun t28 w29 =>
    Rd Try.prog (WS.at w29) (sBuild 33 [(0, t28)]) fun t30 =>
    Do Try.prog (sAlloc 33) (fun t31 w32 =>
    Do Try.prog (sStore 33 t31 t30) (fun _ w33 =>
    CallK Try.prog 146 [(f23 0), (.int .i64 4)] (fun t34 w35 =>
    LoopF [33, 34, 37, 38, 39, 40, 7, 41, 42, 43, 44, 45, 46, 47, 7, 48, 49, 50, 51, 52, 53, 35, 36, 6] (fun Q36 f37 w38 =>
     Rd Try.prog (WS.at w38) (sBin .gtr 3 true (f37 6) (.int .i64 0)) fun t39 =>
     CondK t39
      (Join (fun K40 =>
      Rd Try.prog (WS.at w38) (sFieldAddr 26 (f37 3) 0) fun t43 =>
      Rd Try.prog (WS.at w38) (sLoad 3 t43) fun t44 =>
      CallK Try.prog 146 [(f37 0), t44] (fun t45 w46 =>
      Join (fun K47 =>
      CallK Try.prog 176 [(f37 0), (.int .i64 2)] (fun t50 w51 =>
      CondK t50
       (Rd Try.prog (WS.at w51) (sFieldAddr 26 (f37 3) 1) fun t52 =>
       Rd Try.prog (WS.at w51) (sLoad 3 t52) fun t53 =>
       CallK Try.prog 146 [(f37 0), t53] (fun t54 w55 =>
       Rd Try.prog (WS.at w55) (sBin .sub 3 true (.int .i64 (-1)) t54) fun t56 =>
       K47 (F.upd (F.upd (F.upd (F.upd (F.upd (F.upd (F.upd (F.upd (F.upd (F.upd (F.upd (F.upd (F.upd (F.upd (F.upd f37 33 (f37 6)) 34 t39) 37 (f37 0)) 38 t43) 39 t44) 40 t45) 7 t45) 41 (f37 0)) 42 t50) 43 (f37 0)) 44 t52) 45 t53) 46 t54) 47 t56) 7 t56) w55) w51)
       (K47 (F.upd (F.upd (F.upd (F.upd (F.upd (F.upd (F.upd (F.upd (F.upd f37 33 (f37 6)) 34 t39) 37 (f37 0)) 38 t43) 39 t44) 40 t45) 7 t45) 41 (f37 0)) 42 t50) w51)) w46) (fun f48 w49 =>
      Rd Try.prog (WS.at w49) (sFieldAddr 33 (f48 5) 1) fun t57 =>
      Rd Try.prog (WS.at w49) (sLoad 27 t57) fun t58 =>
      Do Try.prog (sBuildSlice 27 1 [(0, (f48 7))]) (fun t59 w60 =>
      Do Try.prog (sBuiltin .append #[27, 27] 27 [false, false] [t58, t59]) (fun t61 w62 =>
      Rd Try.prog (WS.at w62) (sFieldAddr 33 (f48 5) 1) fun t63 =>
      Do Try.prog (sStore 27 t63 t61) (fun _ w64 =>
      K40 (F.upd (F.upd (F.upd (F.upd (F.upd (F.upd f48 48 t57) 49 t58) 50 (f48 7)) 51 t59) 52 t61) 53 t63) w64) w62) w60) w49)) w38) (fun f41 w42 =>
      Rd Try.prog (WS.at w42) (sBin .sub 3 true (f41 6) (.int .i64 1)) fun t65 =>
      Q36 .normal (F.upd (F.upd (F.upd f41 35 (f41 6)) 36 t65) 6 t65) w42))
      (Q36 (.exit 2) (F.upd (F.upd f37 33 (f37 6)) 34 t39) w38))
     (blockQ 2 (seqQ (fun f66 w67 =>
    Rd Try.prog (WS.at w67) (sFieldAddr 26 (f66 3) 2) fun t68 =>
    Rd Try.prog (WS.at w67) (sLoad 24 t68) fun t69 =>
    Rd Try.prog (WS.at w67) (sLoad 33 (f66 5)) fun t70 =>
    CallK Try.prog 304 [t69, t70] (fun t71 w72 =>
    Rd Try.prog (WS.at w72) (sFieldAddr 26 (f66 3) 2) fun t73 =>
    Do Try.prog (sStore 24 t73 t71) (fun _ w74 =>
    Rd Try.prog (WS.at w74) (sBin .sub 3 true (f66 4) (.int .i64 1)) fun t75 =>
    Q22 .normal (F.upd (F.upd (F.upd (F.upd (F.upd (F.upd (F.upd (F.upd f66 54 t68) 55 t69) 56 t70) 57 t71) 58 t73) 24 (f66 4)) 25 t75) 4 t75) w74) w72) w67) (blockQ 1 (seqQ (fun f76 w77 =>
    Rd Try.prog (WS.at w77) (sBin .sub 3 true (f76 4) (.int .i64 1)) fun t78 =>
    Q22 .normal (F.upd (F.upd (F.upd f76 24 (f76 4)) 25 t78) 4 t78) w77) Q22))))
     (F.upd (F.upd (F.upd (F.upd (F.upd (F.upd (F.upd (F.upd (F.upd (F.upd (F.upd f23 22 (f23 4)) 23 t25) 26 (f23 0)) 27 t26) 28 t27) 29 t28) 30 t30) 5 t31) 31 (f23 0)) 32 t34) 6 t34) w35) w33) w32) w29) w24)
    (Q22 (.exit 0) (F.upd (F.upd f23 22 (f23 4)) 23 t25) w24))
   (blockQ 0 (seqQ (fun f79 w80 =>
  Rd Try.prog (WS.at w80) (sLoad 26 (f79 3)) fun t81 =>
  Do Try.prog (sStore 26 (f79 2) t81) (fun _ w82 =>
  Rd Try.prog (WS.at w82) (sLoadVar 26 (f79 2)) fun t83 => k t83 w82) w80) (bodyQ Try.prog [.cell 2 26] k)))
   (F.upd (F.upd (F.upd (F.upd (F.upd (F.upd (F.upd (F.upd (F.upd (F.upd (F.upd (F.upd (F.upd (F.upd (F.upd (initF [v0]) 2 t1) 8 v0) 9 t3) 12 v0) 13 t9) 14 t11) 15 v0) 16 t12) 17 t14) 18 t15) 3 t16) 19 v0) 20 t19) 21 t21) 4 t21) w20) w18) w17) w13) w10) w4)) w2) w
theorem body246 : Try.f246.body = some (bodyOf Try.f246) := by kernel_rfl
theorem same246 (v0 : Value) (k : Value → World → Prop) (w : World) : wpF Try.prog pl246 (bodyOf Try.f246) (bodyQ Try.prog Try.f246.results.toList k) (initF [v0]) w = S246 v0 k w := by kernel_rfl
theorem enter246 {v0 : Value} {k : Value → World → Prop} {w : World} (h : S246 v0 k w) : CallK Try.prog 246 [v0] k w :=
  call_of_wpF (pl := pl246) mixed Try.func246 body246 (by kernel_rfl) (of_decide_eq_true (by kernel_rfl)) (by kernel_rfl) (by kernel_rfl) (same246 v0 k w ▸ h)

/-! (*loop.example/g00758/spec.l1Cur).anyGrammar -/
def pl145 : Plans := fun i => match i with
  | 8 => ⟨true, [7, 9], .step 0 .any (.step 1 .held (.step 2 .any (.step 3 .held (.step 4 .any (.step 5 .held (.step 6 .one (.step 7 .last (.step 8 .any (.step 9 .last (.nil))))))))))⟩
  | 10 => ⟨true, [7], .step 0 .any (.step 1 .held (.step 2 .any (.step 3 .one (.step 4 .any (.step 5 .any (.step 6 .any (.step 7 .last (.nil))))))))⟩
  | _ => ⟨false, [], .nil⟩
def S145 (v0 : Value) (k : Value → World → Prop) (w : World) : Prop :=
 Do Try.prog (sAlloc 26) (fun t1 w2 =>
 CallK Try.prog 246 [v0] (fun t3 w4 =>
 Do Try.prog (sAlloc 26) (fun t5 w6 =>
 Do Try.prog (sStore 26 t5 t3) (fun _ w7 =>
 Join (fun K8 =>
 CallK Try.prog 146 [v0, (.int .i64 40)] (fun t11 w12 =>
 Rd Try.prog (WS.at w12) (sBin .eql 3 true t11 (.int .i64 0)) fun t13 =>
 CondK t13
  (Do Try.prog (sBuildSlice 27 3 [(0, (.int .i64 0)), (1, (.int .i64 6)), (2, (.int .i64 7))]) (fun t14 w15 =>
  CallK Try.prog 156 [v0, t14] (fun t16 w17 =>
  Rd Try.prog (WS.at w17) (sFieldAddr 26 t5 0) fun t18 =>
  Do Try.prog (sStore 3 t18 t16) (fun _ w19 =>
  K8 (F.upd (F.upd (F.upd (F.upd (F.upd (F.upd (F.upd (F.upd (F.upd (F.upd (F.upd (F.upd (initF [v0]) 2 t1) 4 v0) 5 t3) 3 t5) 6 v0) 7 t11) 9 t13) 8 t13) 10 v0) 11 t14) 12 t16) 13 t18) w19) w17) w15) w12)
  (Rd Try.prog (WS.at w12) (sBin .eql 3 true t11 (.int .i64 1)) fun t20 =>
  CondK t20
   (Do Try.prog (sBuildSlice 27 3 [(0, (.int .i64 0)), (1, (.int .i64 4)), (2, (.int .i64 5))]) (fun t21 w22 =>
   CallK Try.prog 156 [v0, t21] (fun t23 w24 =>
   Rd Try.prog (WS.at w24) (sFieldAddr 26 t5 1) fun t25 =>
   Do Try.prog (sStore 3 t25 t23) (fun _ w26 =>
   K8 (F.upd (F.upd (F.upd (F.upd (F.upd (F.upd (F.upd (F.upd (F.upd (F.upd (F.upd (F.upd (F.upd (F.upd (initF [v0]) 2 t1) 4 v0) 5 t3) 3 t5) 6 v0) 7 t11) 9 t13) 8 t13) 15 t20) 14 t20) 16 v0) 17 t21) 18 t23) 19 t25) w26) w24) w22) w12)
   (Rd Try.prog (WS.at w12) (sBin .eql 3 true t11 (.int .i64 2)) fun t27 =>
   CondK t27
    (∃ S28 : World → Prop, ∃ h29 : S28 w12.drew,
    Rd Try.prog WS.any (sFieldAddr 26 t5 2) fun t30 =>
    Rd Try.prog ⟨S28, w12.drew, h29⟩ (sLoad 24 t30) fun t31 =>
    Rd Try.prog WS.any (sFieldAddr 26 t5 2) fun t32 =>
    Rd Try.prog ⟨S28, w12.drew, h29⟩ (sLoad 24 t32) fun t33 =>
    Rd Try.prog WS.any (sIndexAddr 24 t33 (.int .i64 0)) fun t34 =>
    Rd Try.prog ⟨S28, w12.drew, h29⟩ (sLoad 33 t34) fun t35 =>
    Do Try.prog (sBuildSlice 24 1 [(0, t35)]) (fun t36 w37 =>
    S28 w37 ∧ Do Try.prog (sBuiltin .append #[24, 24] 24 [false, false] [t31, t36]) (fun t38 w39 =>
    Rd Try.prog WS.any (sFieldAddr 26 t5 2) fun t40 =>
    Do Try.prog (sStore 24 t40 t38) (fun _ w41 =>
    K8 (F.upd (F.upd (F.upd (F.upd (F.upd (F.upd (F.upd (F.upd (F.upd (F.upd (F.upd (F.upd (F.upd (F.upd (F.upd (F.upd (F.upd (F.upd (F.upd (F.upd (F.upd (initF [v0]) 2 t1) 4 v0) 5 t3) 3 t5) 6 v0) 7 t11) 9 t13) 8 t13) 15 t20) 14 t20) 21 t27) 20 t27) 22 t30) 23 t31) 24 t32) 25 t33) 26 t34) 27 t35) 28 t36) 29 t38) 30 t40) w41) w39) w37) w12.drew)
    (Rd Try.prog (WS.at w12) (sBin .eql 3 true t11 (.int .i64 3)) fun t42 =>
    CondK t42
     (∃ S43 : World → Prop, ∃ h44 : S43 w12.drew,
     Rd Try.prog WS.any (sFieldAddr 26 t5 2) fun t45 =>
     Rd Try.prog ⟨S43, w12.drew, h44⟩ (sLoad 24 t45) fun t46 =>
     CallK Try.prog 146 [v0, (.int .i64 8)] (fun t47 w48 =>
     S43 w48 ∧ Rd Try.prog WS.any (sBin .sub 3 true t47 (.int .i64 1)) fun t49 =>
     Rd Try.prog WS.any (sIndexAddr 24 t46 (.int .i64 0)) fun t50 =>
     Rd Try.prog WS.any (sFieldAddr 33 t50 0) fun t51 =>
     Do Try.prog (sStore 3 t51 t49) (fun _ w52 =>
     K8 (F.upd (F.upd (F.upd (F.upd (F.upd (F.upd (F.upd (F.upd (F.upd (F.upd (F.upd (F.upd (F.upd (F.upd (F.upd (F.upd (F.upd (F.upd (F.upd (F.upd (F.upd (initF [v0]) 2 t1) 4 v0) 5 t3) 3 t5) 6 v0) 7 t11) 9 t13) 8 t13) 15 t20) 14 t20) 21 t27) 20 t27) 32 t42) 31 t42) 33 t45) 34 t46) 35 v0) 36 t47) 37 t49) 38 t50) 39 t51) w52) w48) w12.drew)
     (K8 (F.upd (F.upd (F.upd (F.upd (F.upd (F.upd (F.upd (F.upd (F.upd (F.upd (F.upd (F.upd (F.upd (F.upd (initF [v0]) 2 t1) 4 v0) 5 t3) 3 t5) 6 v0) 7 t11) 9 t13) 8 t13) 15 t20) 14 t20) 21 t27) 20 t27) 32 t42) 31 t42) w12))))) w7) (fun f9 w10 =>
 Rd Try.prog (WS.at w10) (sLoad 26 (f9 3)) fun t53 =>
 Do Try.prog (sStore 26 (f9 2) t53) (fun _ w54 =>
 Rd Try.prog (WS.at w54) (sLoadVar 26 (f9 2)) fun t55 => k t55 w54) w10)) w6) w4) w2) w
theorem body145 : Try.f145.body = some (bodyOf Try.f145) := by kernel_rfl
theorem same145 (v0 : Value) (k : Value → World → Prop) (w : World) : wpF Try.prog pl145 (bodyOf Try.f145) (bodyQ Try.prog Try.f145.results.toList k) (initF [v0]) w = S145 v0 k w := by kernel_rfl
theorem enter145 {v0 : Value} {k : Value → World → Prop} {w : World} (h : S145 v0 k w) : CallK Try.prog 145 [v0] k w :=
  call_of_wpF (pl := pl145) mixed Try.func145 body145 (by kernel_rfl) (of_decide_eq_true (by kernel_rfl)) (by kernel_rfl) (by kernel_rfl) (same145 v0 k w ▸ h)

/-! (*loop.example/g00758/spec.l1Cur).word -/
def pl218 : Plans := fun _ => ⟨false, [], .nil⟩
def S218 (v0 v1 v2 : Value) (k : Value → World → Prop) (w : World) : Prop :=
 Do Try.prog (sBox 26 v1) (fun t1 w2 =>
 Rd Try.prog (WS.at w2) (sBin .add 3 true v2 (.int .i64 1)) fun t3 =>
 CallK Try.prog 146 [v0, t3] (fun t4 w5 =>
 LoopF [13, 14, 17, 18, 19, 20, 21, 22, 23, 24, 7, 15, 16, 8] (fun Q6 f7 w8 =>
  Rd Try.prog (WS.at w8) (sBin .gtr 3 true (f7 8) (.int .i64 0)) fun t9 =>
  CondK t9
   (Rd Try.prog (WS.at w8) (sFieldAddr 26 (f7 4) 1) fun t10 =>
   Rd Try.prog (WS.at w8) (sLoad 3 t10) fun t11 =>
   CallK Try.prog 159 [(.int .i64 1), t11] (fun t12 w13 =>
   CallK Try.prog 146 [(f7 0), t12] (fun t14 w15 =>
   Do Try.prog (sBuildSlice 27 1 [(0, t14)]) (fun t16 w17 =>
   Do Try.prog (sBuiltin .append #[27, 27] 27 [false, false] [(f7 7), t16]) (fun t18 w19 =>
   Rd Try.prog (WS.at w19) (sBin .sub 3 true (f7 8) (.int .i64 1)) fun t20 =>
   Q6 .normal (F.upd (F.upd (F.upd (F.upd (F.upd (F.upd (F.upd (F.upd (F.upd (F.upd (F.upd (F.upd (F.upd (F.upd f7 13 (f7 8)) 14 t9) 17 (f7 7)) 18 (f7 0)) 19 t10) 20 t11) 21 t12) 22 t14) 23 t16) 24 t18) 7 t18) 15 (f7 8)) 16 t20) 8 t20) w19) w17) w15) w13) w8)
   (Q6 (.exit 0) (F.upd (F.upd f7 13 (f7 8)) 14 t9) w8))
  (blockQ 0 (seqQ (fun f21 w22 =>
 Join (fun K23 =>
 Rd Try.prog (WS.at w22) (sBuiltin .len #[27] 3 [false] [(f21 7)]) fun t26 =>
 Rd Try.prog (WS.at w22) (sBin .gtr 3 true t26 (.int .i64 0)) fun t27 =>
 GuardK t27 true (fun k w' => k (f21 0) w') (fun t28 w29 =>
 GuardK t27 true (fun k w' => CallK Try.prog 176 [t28, (.int .i64 60)] k w') (fun t30 w31 =>
 Rd Try.prog (WS.at w31) (sPick t27 t30 (.bool false)) fun t32 =>
 CondK t32
  (Do Try.prog (sBuildSlice 27 2 [(0, (.int .i64 (-1))), (1, (.int .i64 4))]) (fun t33 w34 =>
  CallK Try.prog 156 [(f21 0), t33] (fun t35 w36 =>
  Rd Try.prog (WS.at w36) (sIndexAddr 27 (f21 7) (.int .i64 0)) fun t37 =>
  Do Try.prog (sStore 3 t37 t35) (fun _ w38 =>
  K23 (F.upd (F.upd (F.upd (F.upd (F.upd (F.upd (F.upd (F.upd (F.upd (F.upd (F.upd (F.upd f21 25 (f21 7)) 26 t26) 27 t27) 28 t27) 29 t28) 30 t30) 31 t32) 32 (f21 7)) 33 (f21 0)) 34 t33) 35 t35) 36 t37) w38) w36) w34) w31)
  (K23 (F.upd (F.upd (F.upd (F.upd (F.upd (F.upd (F.upd f21 25 (f21 7)) 26 t26) 27 t27) 28 t27) 29 t28) 30 t30) 31 t32) w31)) w29) w22) (fun f24 w25 =>
 k (f24 7) w25)) (bodyQ Try.prog [.tmp 6] k)))
  (F.upd (F.upd (F.upd (F.upd (F.upd (F.upd (F.upd (F.upd (initF [v0, v1, v2]) 4 t1) 6 (.slice none 0 0)) 7 (.slice none 0 0)) 9 v0) 10 v2) 11 t3) 12 t4) 8 t4) w5) w2) w
theorem body218 : Try.f218.body = some (bodyOf Try.f218) := by kernel_rfl
theorem same218 (v0 v1 v2 : Value) (k : Value → World → Prop) (w : World) : wpF Try.prog pl218 (bodyOf Try.f218) (bodyQ Try.prog Try.f218.results.toList k) (initF [v0, v1, v2]) w = S218 v0 v1 v2 k w := by kernel_rfl
theorem enter218 {v0 v1 v2 : Value} {k : Value → World → Prop} {w : World} (h : S218 v0 v1 v2 k w) : CallK Try.prog 218 [v0, v1, v2] k w :=
  call_of_wpF (pl := pl218) mixed Try.func218 body218 (by kernel_rfl) (of_decide_eq_true (by kernel_rfl)) (by kernel_rfl) (by kernel_rfl) (same218 v0 v1 v2 k w ▸ h)

/-! (*loop.example/g00758/spec.l1Cur).wordIn -/
def pl147 : Plans := fun _ => ⟨false, [], .nil⟩
def S147 (v0 v1 : Value) (k : Value → World → Prop) (w : World) : Prop :=
 Do Try.prog (sBox 26 v1) (fun t1 w2 =>
 Rd Try.prog (WS.at w2) (sLoad 26 t1) fun t3 =>
 CallK Try.prog 24 [t3, (.int .i64 3)] (fun t4 w5 =>
 Rd Try.prog (WS.at w5) (sExtract t4 0) fun t6 =>
 Rd Try.prog (WS.at w5) (sExtract t4 1) fun t7 =>
 GuardK t7 true (fun k w' => k t6 w') (fun t8 w9 =>
 GuardK t7 true (fun k w' => Rd Try.prog (WS.at w9) (sBuiltin .len #[35] 3 [false] [t8]) fun v => k v w') (fun t10 w11 =>
 GuardK t7 true (fun k w' => Rd Try.prog (WS.at w11) (sBin .gtr 3 true t10 (.int .i64 0)) fun v => k v w') (fun t12 w13 =>
 Rd Try.prog (WS.at w13) (sPick t7 t12 (.bool false)) fun t14 =>
 GuardK t14 true (fun k w' => k v0 w') (fun t15 w16 =>
 GuardK t14 true (fun k w' => CallK Try.prog 176 [t15, (.int .i64 2)] k w') (fun t17 w18 =>
 Rd Try.prog (WS.at w18) (sPick t14 t17 (.bool false)) fun t19 =>
 CondK t19
  (Rd Try.prog (WS.at w18) (sBuiltin .len #[35] 3 [false] [t6]) fun t20 =>
  CallK Try.prog 146 [v0, t20] (fun t21 w22 =>
  Rd Try.prog (WS.at w22) (sIndexAddr 35 t6 t21) fun t23 =>
  Rd Try.prog (WS.at w22) (sLoad 27 t23) fun t24 =>
  CallK Try.prog 158 [t24] (fun t25 w26 =>
  Join (fun K27 =>
  CallK Try.prog 176 [v0, (.int .i64 3)] (fun t30 w31 =>
  CondK t30
   (Do Try.prog (sBuiltin .append #[27, 27] 27 [false, false] [t25, t25]) (fun t32 w33 =>
   K27 (F.upd (F.upd (F.upd (F.upd (F.upd (F.upd (F.upd (F.upd (F.upd (F.upd (F.upd (F.upd (F.upd (F.upd (F.upd (F.upd (F.upd (F.upd (F.upd (F.upd (F.upd (F.upd (F.upd (F.upd (F.upd (F.upd (F.upd (F.upd (F.upd (F.upd (F.upd (F.upd (F.upd (F.upd (initF [v0, v1]) 3 t1) 4 (.slice none 0 0)) 9 t3) 10 t4) 8 t4) 11 t6) 12 t7) 5 t6) 6 t7) 13 t7) 14 t7) 15 t8) 16 t10) 17 t12) 18 t14) 19 t14) 20 t15) 21 t17) 22 t19) 23 t6) 24 v0) 25 t6) 26 t20) 27 t21) 28 t23) 29 t24) 30 t25) 7 t25) 31 v0) 32 t30) 33 t25) 34 t25) 35 t32) 7 t32) w33) w31)
   (K27 (F.upd (F.upd (F.upd (F.upd (F.upd (F.upd (F.upd (F.upd (F.upd (F.upd (F.upd (F.upd (F.upd (F.upd (F.upd (F.upd (F.upd (F.upd (F.upd (F.upd (F.upd (F.upd (F.upd (F.upd (F.upd (F.upd (F.upd (F.upd (F.upd (F.upd (initF [v0, v1]) 3 t1) 4 (.slice none 0 0)) 9 t3) 10 t4) 8 t4) 11 t6) 12 t7) 5 t6) 6 t7) 13 t7) 14 t7) 15 t8) 16 t10) 17 t12) 18 t14) 19 t14) 20 t15) 21 t17) 22 t19) 23 t6) 24 v0) 25 t6) 26 t20) 27 t21) 28 t23) 29 t24) 30 t25) 7 t25) 31 v0) 32 t30) w31)) w26) (fun f28 w29 =>
  k (f28 7) w29)) w22) w18)
  (Rd Try.prog (WS.at w18) (sLoad 26 t1) fun t34 =>
  CallK Try.prog 218 [v0, t34, (.int .i64 5)] (fun t35 w36 =>
  k t35 w36) w18)) w16) w13) w11) w9) w5) w2) w
theorem body147 : Try.f147.body = some (bodyOf Try.f147) := by kernel_rfl
theorem same147 (v0 v1 : Value) (k : Value → World → Prop) (w : World) : wpF Try.prog pl147 (bodyOf Try.f147) (bodyQ Try.prog Try.f147.results.toList k) (initF [v0, v1]) w = S147 v0 v1 k w := by kernel_rfl
theorem enter147 {v0 v1 : Value} {k : Value → World → Prop} {w : World} (h : S147 v0 v1 k w) : CallK Try.prog 147 [v0, v1] k w :=
  call_of_wpF (pl := pl147) mixed Try.func147 body147 (by kernel_rfl) (of_decide_eq_true (by kernel_rfl)) (by kernel_rfl) (by kernel_rfl) (same147 v0 v1 k w ▸ h)

/-! (*loop.example/g00758/spec.l1Cur).two -/
def pl168 : Plans := fun i => match i with
  | 10 => ⟨true, [3], .step 0 .held (.step 1 .held (.step 2 .one (.step 3 .last (.nil))))⟩
  | _ => ⟨false, [], .nil⟩
def S168 (v0 : Value) (k : Value → World → Prop) (w : World) : Prop :=
 Do Try.prog (sAlloc 26) (fun t1 w2 =>
 Do Try.prog (sAlloc 26) (fun t3 w4 =>
 CallK Try.prog 145 [v0] (fun t5 w6 =>
 Do Try.prog (sAlloc 26) (fun t7 w8 =>
 Do Try.prog (sStore 26 t7 t5) (fun _ w9 =>
 CallK Try.prog 246 [v0] (fun t10 w11 =>
 Do Try.prog (sAlloc 26) (fun t12 w13 =>
 Do Try.prog (sStore 26 t12 t10) (fun _ w14 =>
 Join (fun K15 =>
 Rd Try.prog (WS.at w14) (sLoad 26 t7) fun t18 =>
 CallK Try.prog 64 [t18] (fun t19 w20 =>
 Rd Try.prog (WS.at w20) (sExtract t19 0) fun t21 =>
 Rd Try.prog (WS.at w20) (sExtract t19 1) fun t22 =>
 Do Try.prog (sAlloc 26) (fun t23 w24 =>
 Do Try.prog (sStore 26 t23 t21) (fun _ w25 =>
 GuardK t22 true (fun k w' => k v0 w') (fun t26 w27 =>
 GuardK t22 true (fun k w' => CallK Try.prog 176 [t26, (.int .i64 3)] k w') (fun t28 w29 =>
 Rd Try.prog (WS.at w29) (sPick t22 t28 (.bool false)) fun t30 =>
 CondK t30
  (Rd Try.prog (WS.at w29) (sLoad 26 t23) fun t31 =>
  Do Try.prog (sStore 26 t12 t31) (fun _ w32 =>
  K15 (F.upd (F.upd (F.upd (F.upd (F.upd (F.upd (F.upd (F.upd (F.upd (F.upd (F.upd (F.upd (F.upd (F.upd (F.upd (F.upd (F.upd (F.upd (F.upd (F.upd (F.upd (initF [v0]) 2 t1) 3 t3) 9 v0) 10 t5) 4 t7) 11 v0) 12 t10) 5 t12) 14 t18) 15 t19) 13 t19) 16 t21) 17 t22) 6 t23) 7 t22) 18 t22) 19 t22) 20 t26) 21 t28) 22 t30) 23 t31) w32) w29)
  (K15 (F.upd (F.upd (F.upd (F.upd (F.upd (F.upd (F.upd (F.upd (F.upd (F.upd (F.upd (F.upd (F.upd (F.upd (F.upd (F.upd (F.upd (F.upd (F.upd (F.upd (initF [v0]) 2 t1) 3 t3) 9 v0) 10 t5) 4 t7) 11 v0) 12 t10) 5 t12) 14 t18) 15 t19) 13 t19) 16 t21) 17 t22) 6 t23) 7 t22) 18 t22) 19 t22) 20 t26) 21 t28) 22 t30) w29)) w27) w25) w24) w20) w14) (fun f16 w17 =>
 LoopF [24, 25, 26, 27, 28, 29, 30, 31, 32, 35, 36, 33, 34, 8] (fun Q33 f34 w35 =>
  Rd Try.prog (WS.at w35) (sBin .lss 3 true (f34 8) (.int .i64 4)) fun t36 =>
  GuardK t36 true (fun k w' => Rd Try.prog (WS.at w35) (sFieldAddr 26 (f34 5) 1) fun v => k v w') (fun t37 w38 =>
  GuardK t36 true (fun k w' => Rd Try.prog (WS.at w38) (sLoad 3 t37) fun v => k v w') (fun t39 w40 =>
  GuardK t36 true (fun k w' => Rd Try.prog (WS.at w40) (sFieldAddr 26 (f34 4) 1) fun v => k v w') (fun t41 w42 =>
  GuardK t36 true (fun k w' => Rd Try.prog (WS.at w42) (sLoad 3 t41) fun v => k v w') (fun t43 w44 =>
  GuardK t36 true (fun k w' => Rd Try.prog (WS.at w44) (sBin .neq 3 false t39 t43) fun v => k v w') (fun t45 w46 =>
  Rd Try.prog (WS.at w46) (sPick t36 t45 (.bool false)) fun t47 =>
  CondK t47
   (CallK Try.prog 246 [(f34 0)] (fun t48 w49 =>
   Do Try.prog (sStore 26 (f34 5) t48) (fun _ w50 =>
   Rd Try.prog (WS.at w50) (sBin .add 3 true (f34 8) (.int .i64 1)) fun t51 =>
   Q33 .normal (F.upd (F.upd (F.upd (F.upd (F.upd (F.upd (F.upd (F.upd (F.upd (F.upd (F.upd (F.upd (F.upd (F.upd f34 24 (f34 8)) 25 t36) 26 t36) 27 t37) 28 t39) 29 t41) 30 t43) 31 t45) 32 t47) 35 (f34 0)) 36 t48) 33 (f34 8)) 34 t51) 8 t51) w50) w49) w46)
   (Q33 (.exit 0) (F.upd (F.upd (F.upd (F.upd (F.upd (F.upd (F.upd (F.upd (F.upd f34 24 (f34 8)) 25 t36) 26 t36) 27 t37) 28 t39) 29 t41) 30 t43) 31 t45) 32 t47) w46)) w44) w42) w40) w38) w35)
  (blockQ 0 (seqQ (fun f52 w53 =>
 ∃ S54 : World → Prop, ∃ h55 : S54 w53.drew,
 Rd Try.prog ⟨S54, w53.drew, h55⟩ (sLoad 26 (f52 4)) fun t56 =>
 Rd Try.prog ⟨S54, w53.drew, h55⟩ (sLoad 26 (f52 5)) fun t57 =>
 Do Try.prog (sStore 26 (f52 2) t56) (fun _ w58 =>
 S54 w58 ∧ Do Try.prog (sStore 26 (f52 3) t57) (fun _ w59 =>
 Rd Try.prog (WS.at w59) (sLoadVar 26 (f52 2)) fun t60 => Rd Try.prog (WS.at w59) (sLoadVar 26 (f52 3)) fun t61 => k (.tuple #[t60, t61]) w59) w58) w53.drew) (bodyQ Try.prog [.cell 2 26, .cell 3 26] k)))
  (F.upd f16 8 (.int .i64 0)) w17)) w13) w11) w9) w8) w6) w4) w2) w
theorem body168 : Try.f168.body = some (bodyOf Try.f168) := by kernel_rfl
theorem same168 (v0 : Value) (k : Value → World → Prop) (w : World) : wpF Try.prog pl168 (bodyOf Try.f168) (bodyQ Try.prog Try.f168.results.toList k) (initF [v0]) w = S168 v0 k w := by kernel_rfl
theorem enter168 {v0 : Value} {k : Value → World → Prop} {w : World} (h : S168 v0 k w) : CallK Try.prog 168 [v0] k w :=
  call_of_wpF (pl := pl168) mixed Try.func168 body168 (by kernel_rfl) (of_decide_eq_true (by kernel_rfl)) (by kernel_rfl) (by kernel_rfl) (same168 v0 k w ▸ h)

end Go.Proofs.Ytegcjkhebecgbaa

/- Contracts: choices read from bytes (the reference's l1Cur: next, pick, one, among). -/
set_option linter.unusedVariables false
set_option linter.unusedSimpArgs false
set_option maxRecDepth 100000
namespace Go.Proofs.Ytegcjkhebecgbaa
open Go Go.Sh Go.RowKit
abbrev TC : Nat := 114
abbrev cur (bc : Nat) (cv : Value) (N : Nat) : Thing := curi TC bc cv N
section
variable {w0 w : World} {L : List Thing} {bc N : Nat} {C : Option Addr} {cap : Nat} {bs : List Int} {k : Value → World → Prop}
theorem set_set' {i : Nat} {a b : Thing} : (L.set i a).set i b = L.set i b := List.set_set ..
theorem get_set' {i : Nat} {a it : Thing} (hi : L[i]? = some it) : (L.set i a)[i]? = some a := by
  rw [List.getElem?_set, if_pos rfl, if_pos (get_lt hi)]
set_option maxHeartbeats 1600000 in
theorem next_c (H : Apt w0 w L) (i : Nat) (hi : L[i]? = some (cur bc (.slice C bs.length cap) N)) (hC : Byts w0 C bs) (hN : N ≤ 1000000000) (hk : ∀ w' (b : Int), 0 ≤ b → b ≤ 255 → Apt w0 w' (L.set i (cur bc (.slice C bs.length cap) (N + 1))) → k (.int .i64 b) w') :
    CallK Try.prog 247 [ptrv bc] k w := by
  refine enter247 ?_
  unfold S247
  obtain ⟨a, s, h0, h1, H⟩ := H.openCur i hi
  have hi1 := get_set' (a := bx bc [.slice C bs.length cap, .int .i64 a, .int .u64 s] TC) hi
  have hle := hC.le
  refine join_as (fun f w' => f 0 = ptrv bc ∧ (∃ b : Int, 0 ≤ b ∧ b ≤ 255 ∧ f 3 = .int .i64 b) ∧ Apt w0 w' (L.set i (bx bc [.slice C bs.length cap, .int .i64 a, .int .u64 s] TC))) (fun K hK => ?_) ?_
  · have H := H.drew
    simp only [bin_add, bin_sub, bin_mul, bin_eql, bin_neq, bin_lss, bin_leq, bin_gtr, bin_geq, un_not, un_neg, pick_true, pick_false, extract_two_0, extract_two_1, nilCheck_pointer, cond_true', cond_false', guard_tt, guard_ff, guard_tf, guard_ft, guard_undef, seqQ_normal, seqQ_ret, seqQ_exit, blockQ_ret, blockQ_normal, blockQ_exit, bodyQ_ret, bodyQ_normal, resK_nil, resK_tmp, ite_T, ite_F, upd_at, add_plain, add_zero', Nat.reduceEqDiff, len22, len24, len27, len35, fa26_0, fa26_1, fa26_2, fa33_0, fa33_1, fa114_0, fa114_1, fa114_2]
    rw [ldB3 (H.box i hi1) rfl]
    rw [ldB22 (H.box i hi1) rfl]
    simp only [bin_add, bin_sub, bin_mul, bin_eql, bin_neq, bin_lss, bin_leq, bin_gtr, bin_geq, un_not, un_neg, pick_true, pick_false, extract_two_0, extract_two_1, nilCheck_pointer, cond_true', cond_false', guard_tt, guard_ff, guard_tf, guard_ft, guard_undef, seqQ_normal, seqQ_ret, seqQ_exit, blockQ_ret, blockQ_normal, blockQ_exit, bodyQ_ret, bodyQ_normal, resK_nil, resK_tmp, ite_T, ite_F, upd_at, add_plain, add_zero', Nat.reduceEqDiff, len22, len24, len27, len35, fa26_0, fa26_1, fa26_2, fa33_0, fa33_1, fa114_0, fa114_1, fa114_2]
    by_cases hlt : a < bs.length
    · simp only [hlt, decide_true, bin_add, bin_sub, bin_mul, bin_eql, bin_neq, bin_lss, bin_leq, bin_gtr, bin_geq, un_not, un_neg, pick_true, pick_false, extract_two_0, extract_two_1, nilCheck_pointer, cond_true', cond_false', guard_tt, guard_ff, guard_tf, guard_ft, guard_undef, seqQ_normal, seqQ_ret, seqQ_exit, blockQ_ret, blockQ_normal, blockQ_exit, bodyQ_ret, bodyQ_normal, resK_nil, resK_tmp, ite_T, ite_F, upd_at, add_plain, add_zero', Nat.reduceEqDiff, len22, len24, len27, len35, fa26_0, fa26_1, fa26_2, fa33_0, fa33_1, fa114_0, fa114_1, fa114_2]
      have H := H.drew
      rw [ldB22 (H.box i hi1) rfl]
      rw [ldB3 (H.box i hi1) rfl]
      obtain ⟨m, rfl⟩ : ∃ m : Nat, a = m := ⟨a.toNat, by omega⟩
      have hm : m < bs.length := by omega
      refine rdi (ixn22 hC.ptr hm) (rdi (ld5 ((hC.gr H.gr).cell m hm)) ?_)
      refine do_convert Try.underlying5 Try.underlying3 ?_
      have hs := hC.small m hm
      rw [i64_of (by omega) (by omega)]
      exact hK _ _ ⟨rfl, ⟨_, hs.1, hs.2, rfl⟩, H⟩
    · simp only [hlt, decide_false, bin_add, bin_sub, bin_mul, bin_eql, bin_neq, bin_lss, bin_leq, bin_gtr, bin_geq, un_not, un_neg, pick_true, pick_false, extract_two_0, extract_two_1, nilCheck_pointer, cond_true', cond_false', guard_tt, guard_ff, guard_tf, guard_ft, guard_undef, seqQ_normal, seqQ_ret, seqQ_exit, blockQ_ret, blockQ_normal, blockQ_exit, bodyQ_ret, bodyQ_normal, resK_nil, resK_tmp, ite_T, ite_F, upd_at, add_plain, add_zero', Nat.reduceEqDiff, len22, len24, len27, len35, fa26_0, fa26_1, fa26_2, fa33_0, fa33_1, fa114_0, fa114_1, fa114_2]
      exact hK _ _ ⟨rfl, ⟨0, by omega, by omega, rfl⟩, H⟩
  · clear H
    rintro f w1 ⟨f0, ⟨b, hb0, hb1, f3⟩, H⟩
    simp only [f0, f3, bin_add, bin_sub, bin_mul, bin_eql, bin_neq, bin_lss, bin_leq, bin_gtr, bin_geq, un_not, un_neg, pick_true, pick_false, extract_two_0, extract_two_1, nilCheck_pointer, cond_true', cond_false', guard_tt, guard_ff, guard_tf, guard_ft, guard_undef, seqQ_normal, seqQ_ret, seqQ_exit, blockQ_ret, blockQ_normal, blockQ_exit, bodyQ_ret, bodyQ_normal, resK_nil, resK_tmp, ite_T, ite_F, upd_at, add_plain, add_zero', Nat.reduceEqDiff, len22, len24, len27, len35, fa26_0, fa26_1, fa26_2, fa33_0, fa33_1, fa114_0, fa114_1, fa114_2]
    rw [ldB3 (H.box i hi1) rfl]
    simp only [bin_add, bin_sub, bin_mul, bin_eql, bin_neq, bin_lss, bin_leq, bin_gtr, bin_geq, un_not, un_neg, pick_true, pick_false, extract_two_0, extract_two_1, nilCheck_pointer, cond_true', cond_false', guard_tt, guard_ff, guard_tf, guard_ft, guard_undef, seqQ_normal, seqQ_ret, seqQ_exit, blockQ_ret, blockQ_normal, blockQ_exit, bodyQ_ret, bodyQ_normal, resK_nil, resK_tmp, ite_T, ite_F, upd_at, add_plain, add_zero', Nat.reduceEqDiff, len22, len24, len27, len35, fa26_0, fa26_1, fa26_2, fa33_0, fa33_1, fa114_0, fa114_1, fa114_2]
    rw [i64_of (by omega) (by omega)]
    refine storeH H i hi1 sz3 rfl rfl rfl fun w2 H => ?_
    simp only [List.take_succ_cons, List.take_zero, List.drop_succ_cons, List.drop_zero, List.nil_append, List.cons_append, Value.cells, set_set'] at H
    have hi2 := get_set' (a := bx bc [.slice C bs.length cap, .int .i64 (a + 1), .int .u64 s] TC) hi
    rw [ldB112 (H.box i hi2) rfl]
    simp only [bin_add, bin_sub, bin_mul, bin_eql, bin_neq, bin_lss, bin_leq, bin_gtr, bin_geq, un_not, un_neg, pick_true, pick_false, extract_two_0, extract_two_1, nilCheck_pointer, cond_true', cond_false', guard_tt, guard_ff, guard_tf, guard_ft, guard_undef, seqQ_normal, seqQ_ret, seqQ_exit, blockQ_ret, blockQ_normal, blockQ_exit, bodyQ_ret, bodyQ_normal, resK_nil, resK_tmp, ite_T, ite_F, upd_at, add_plain, add_zero', Nat.reduceEqDiff, len22, len24, len27, len35, fa26_0, fa26_1, fa26_2, fa33_0, fa33_1, fa114_0, fa114_1, fa114_2]
    refine do_convert Try.underlying3 Try.underlying112 ?_
    simp only [bin_add, bin_sub, bin_mul, bin_eql, bin_neq, bin_lss, bin_leq, bin_gtr, bin_geq, un_not, un_neg, pick_true, pick_false, extract_two_0, extract_two_1, nilCheck_pointer, cond_true', cond_false', guard_tt, guard_ff, guard_tf, guard_ft, guard_undef, seqQ_normal, seqQ_ret, seqQ_exit, blockQ_ret, blockQ_normal, blockQ_exit, bodyQ_ret, bodyQ_normal, resK_nil, resK_tmp, ite_T, ite_F, upd_at, add_plain, add_zero', Nat.reduceEqDiff, len22, len24, len27, len35, fa26_0, fa26_1, fa26_2, fa33_0, fa33_1, fa114_0, fa114_1, fa114_2]
    refine storeH H i hi2 sz112 rfl rfl rfl fun w3 H => ?_
    simp only [List.take_succ_cons, List.take_zero, List.drop_succ_cons, List.drop_zero, List.nil_append, List.cons_append, Value.cells, set_set'] at H
    generalize IntKind.u64.wrap _ = z at H
    have hi3 := get_set' (a := bx bc [.slice C bs.length cap, .int .i64 (a + 1), .int .u64 z] TC) hi
    have H := H.drew
    rw [ldB3 (H.box i hi3) rfl]
    rw [ldB22 (H.box i hi3) rfl]
    simp only [bin_add, bin_sub, bin_mul, bin_eql, bin_neq, bin_lss, bin_leq, bin_gtr, bin_geq, un_not, un_neg, pick_true, pick_false, extract_two_0, extract_two_1, nilCheck_pointer, cond_true', cond_false', guard_tt, guard_ff, guard_tf, guard_ft, guard_undef, seqQ_normal, seqQ_ret, seqQ_exit, blockQ_ret, blockQ_normal, blockQ_exit, bodyQ_ret, bodyQ_normal, resK_nil, resK_tmp, ite_T, ite_F, upd_at, add_plain, add_zero', Nat.reduceEqDiff, len22, len24, len27, len35, fa26_0, fa26_1, fa26_2, fa33_0, fa33_1, fa114_0, fa114_1, fa114_2]
    have fin : ∀ w' (b : Int), 0 ≤ b → b ≤ 255 → Apt w0 w' (L.set i (bx bc [.slice C bs.length cap, .int .i64 (a + 1), .int .u64 z] TC)) → k (.int .i64 b) w' := fun w' b hb hb' H => by
      have H := H.shutCur (N := N + 1) i hi3 (by omega) (by omega)
      rw [set_set'] at H
      exact hk w' b hb hb' H
    by_cases hle2 : a + 1 ≤ bs.length
    · simp only [hle2, decide_true, bin_add, bin_sub, bin_mul, bin_eql, bin_neq, bin_lss, bin_leq, bin_gtr, bin_geq, un_not, un_neg, pick_true, pick_false, extract_two_0, extract_two_1, nilCheck_pointer, cond_true', cond_false', guard_tt, guard_ff, guard_tf, guard_ft, guard_undef, seqQ_normal, seqQ_ret, seqQ_exit, blockQ_ret, blockQ_normal, blockQ_exit, bodyQ_ret, bodyQ_normal, resK_nil, resK_tmp, ite_T, ite_F, upd_at, add_plain, add_zero', Nat.reduceEqDiff, len22, len24, len27, len35, fa26_0, fa26_1, fa26_2, fa33_0, fa33_1, fa114_0, fa114_1, fa114_2]
      exact fin _ b hb0 hb1 H
    · simp only [hle2, decide_false, bin_add, bin_sub, bin_mul, bin_eql, bin_neq, bin_lss, bin_leq, bin_gtr, bin_geq, un_not, un_neg, pick_true, pick_false, extract_two_0, extract_two_1, nilCheck_pointer, cond_true', cond_false', guard_tt, guard_ff, guard_tf, guard_ft, guard_undef, seqQ_normal, seqQ_ret, seqQ_exit, blockQ_ret, blockQ_normal, blockQ_exit, bodyQ_ret, bodyQ_normal, resK_nil, resK_tmp, ite_T, ite_F, upd_at, add_plain, add_zero', Nat.reduceEqDiff, len22, len24, len27, len35, fa26_0, fa26_1, fa26_2, fa33_0, fa33_1, fa114_0, fa114_1, fa114_2]
      rw [ldB112 (H.box i hi3) rfl]
      refine rdi (bin_shr (by omega)) (rdi bin_and ?_)
      have h255 := and255 (z.fdiv (2 ^ (min (40 : Int).toNat IntKind.u64.bits)))
      generalize IntKind.u64.wrap _ = y at *
      refine do_convert Try.underlying112 Try.underlying3 ?_
      rw [i64_of (by omega) (by omega)]
      exact fin _ y h255.1 h255.2 H
theorem pick_c (H : Apt w0 w L) (i : Nat) (hi : L[i]? = some (cur bc (.slice C bs.length cap) N)) (hC : Byts w0 C bs) (hN : N ≤ 100000000) {n : Int} (hn : n ≤ 60000) (hk : ∀ w' (b : Nat), (n ≤ 1 → b = 0) → (1 < n → (b : Int) < n) → Apt w0 w' (L.set i (cur bc (.slice C bs.length cap) (N + 2))) → k (.int .i64 (b : Int)) w') :
    CallK Try.prog 146 [ptrv bc, .int .i64 n] k w := by
  refine enter146 ?_
  unfold S146
  have more : ∀ {w : World} {m : Nat}, m ≤ N + 2 → Apt w0 w (L.set i (cur bc (.slice C bs.length cap) m)) → Apt w0 w (L.set i (cur bc (.slice C bs.length cap) (N + 2))) := fun {w m} hm H => by
    have hj := get_set' (a := cur bc (.slice C bs.length cap) m) hi
    obtain ⟨a, s, h0, h1, H⟩ := H.openCur i hj
    rw [set_set'] at H
    have hj2 := get_set' (a := bx bc [.slice C bs.length cap, .int .i64 a, .int .u64 s] TC) hi
    have H := H.shutCur (N := N + 2) i hj2 h0 (by omega)
    rw [set_set'] at H
    exact H
  simp only [bin_add, bin_sub, bin_mul, bin_eql, bin_neq, bin_lss, bin_leq, bin_gtr, bin_geq, un_not, un_neg, pick_true, pick_false, extract_two_0, extract_two_1, nilCheck_pointer, cond_true', cond_false', guard_tt, guard_ff, guard_tf, guard_ft, guard_undef, seqQ_normal, seqQ_ret, seqQ_exit, blockQ_ret, blockQ_normal, blockQ_exit, bodyQ_ret, bodyQ_normal, resK_nil, resK_tmp, ite_T, ite_F, upd_at, add_plain, add_zero', Nat.reduceEqDiff, len22, len24, len27, len35, fa26_0, fa26_1, fa26_2, fa33_0, fa33_1, fa114_0, fa114_1, fa114_2]
  by_cases h1 : n ≤ 1
  · simp only [h1, decide_true, bin_add, bin_sub, bin_mul, bin_eql, bin_neq, bin_lss, bin_leq, bin_gtr, bin_geq, un_not, un_neg, pick_true, pick_false, extract_two_0, extract_two_1, nilCheck_pointer, cond_true', cond_false', guard_tt, guard_ff, guard_tf, guard_ft, guard_undef, seqQ_normal, seqQ_ret, seqQ_exit, blockQ_ret, blockQ_normal, blockQ_exit, bodyQ_ret, bodyQ_normal, resK_nil, resK_tmp, ite_T, ite_F, upd_at, add_plain, add_zero', Nat.reduceEqDiff, len22, len24, len27, len35, fa26_0, fa26_1, fa26_2, fa33_0, fa33_1, fa114_0, fa114_1, fa114_2]
    have e : L = L.set i (cur bc (.slice C bs.length cap) N) := by
      obtain ⟨h, e⟩ := List.getElem?_eq_some_iff.1 hi
      rw [← e, List.set_getElem_self]
    rw [e] at H
    exact hk w 0 (fun _ => rfl) (fun h => by omega) (more (by omega) H)
  simp only [h1, decide_false, bin_add, bin_sub, bin_mul, bin_eql, bin_neq, bin_lss, bin_leq, bin_gtr, bin_geq, un_not, un_neg, pick_true, pick_false, extract_two_0, extract_two_1, nilCheck_pointer, cond_true', cond_false', guard_tt, guard_ff, guard_tf, guard_ft, guard_undef, seqQ_normal, seqQ_ret, seqQ_exit, blockQ_ret, blockQ_normal, blockQ_exit, bodyQ_ret, bodyQ_normal, resK_nil, resK_tmp, ite_T, ite_F, upd_at, add_plain, add_zero', Nat.reduceEqDiff, len22, len24, len27, len35, fa26_0, fa26_1, fa26_2, fa33_0, fa33_1, fa114_0, fa114_1, fa114_2]
  refine next_c H i hi hC (by omega) fun w1 b hb0 hb1 H => ?_
  have hj := get_set' (a := cur bc (.slice C bs.length cap) (N + 1)) hi
  have fin : ∀ (x : Int) (w' : World), 0 ≤ x → Apt w0 w' (L.set i (cur bc (.slice C bs.length cap) (N + 2))) → k (.int .i64 (x.tmod n)) w' := fun x w' hx H => by
    have e1 : x.tmod n = x % n := Int.tmod_eq_emod_of_nonneg hx
    have e2 := Int.emod_nonneg x (show n ≠ 0 by omega)
    have e3 := Int.emod_lt_of_pos x (show 0 < n by omega)
    have := hk w' (x % n).toNat (fun h => absurd h h1) (fun _ => by omega) H
    rw [Int.toNat_of_nonneg e2] at this
    rw [e1]
    exact this
  refine join_as (fun f w' => f 1 = .int .i64 n ∧ ∃ x : Int, 0 ≤ x ∧ f 5 = .int .i64 x ∧ Apt w0 w' (L.set i (cur bc (.slice C bs.length cap) (N + 2)))) (fun K hK => ?_) ?_
  · simp only [bin_add, bin_sub, bin_mul, bin_eql, bin_neq, bin_lss, bin_leq, bin_gtr, bin_geq, un_not, un_neg, pick_true, pick_false, extract_two_0, extract_two_1, nilCheck_pointer, cond_true', cond_false', guard_tt, guard_ff, guard_tf, guard_ft, guard_undef, seqQ_normal, seqQ_ret, seqQ_exit, blockQ_ret, blockQ_normal, blockQ_exit, bodyQ_ret, bodyQ_normal, resK_nil, resK_tmp, ite_T, ite_F, upd_at, add_plain, add_zero', Nat.reduceEqDiff, len22, len24, len27, len35, fa26_0, fa26_1, fa26_2, fa33_0, fa33_1, fa114_0, fa114_1, fa114_2]
    by_cases h2 : 200 < n
    · simp only [h2, decide_true, bin_add, bin_sub, bin_mul, bin_eql, bin_neq, bin_lss, bin_leq, bin_gtr, bin_geq, un_not, un_neg, pick_true, pick_false, extract_two_0, extract_two_1, nilCheck_pointer, cond_true', cond_false', guard_tt, guard_ff, guard_tf, guard_ft, guard_undef, seqQ_normal, seqQ_ret, seqQ_exit, blockQ_ret, blockQ_normal, blockQ_exit, bodyQ_ret, bodyQ_normal, resK_nil, resK_tmp, ite_T, ite_F, upd_at, add_plain, add_zero', Nat.reduceEqDiff, len22, len24, len27, len35, fa26_0, fa26_1, fa26_2, fa33_0, fa33_1, fa114_0, fa114_1, fa114_2]
      rw [i64_of (by omega) (by omega)]
      refine next_c H i hj hC (by omega) fun w2 b2 hc0 hc1 H => ?_
      rw [set_set'] at H
      simp only [bin_add, bin_sub, bin_mul, bin_eql, bin_neq, bin_lss, bin_leq, bin_gtr, bin_geq, un_not, un_neg, pick_true, pick_false, extract_two_0, extract_two_1, nilCheck_pointer, cond_true', cond_false', guard_tt, guard_ff, guard_tf, guard_ft, guard_undef, seqQ_normal, seqQ_ret, seqQ_exit, blockQ_ret, blockQ_normal, blockQ_exit, bodyQ_ret, bodyQ_normal, resK_nil, resK_tmp, ite_T, ite_F, upd_at, add_plain, add_zero', Nat.reduceEqDiff, len22, len24, len27, len35, fa26_0, fa26_1, fa26_2, fa33_0, fa33_1, fa114_0, fa114_1, fa114_2]
      rw [i64_of (by omega) (by omega)]
      exact hK _ _ ⟨rfl, _, by omega, rfl, H⟩
    · simp only [h2, decide_false, bin_add, bin_sub, bin_mul, bin_eql, bin_neq, bin_lss, bin_leq, bin_gtr, bin_geq, un_not, un_neg, pick_true, pick_false, extract_two_0, extract_two_1, nilCheck_pointer, cond_true', cond_false', guard_tt, guard_ff, guard_tf, guard_ft, guard_undef, seqQ_normal, seqQ_ret, seqQ_exit, blockQ_ret, blockQ_normal, blockQ_exit, bodyQ_ret, bodyQ_normal, resK_nil, resK_tmp, ite_T, ite_F, upd_at, add_plain, add_zero', Nat.reduceEqDiff, len22, len24, len27, len35, fa26_0, fa26_1, fa26_2, fa33_0, fa33_1, fa114_0, fa114_1, fa114_2]
      exact hK _ _ ⟨rfl, b, hb0, rfl, more (by omega) H⟩
  · rintro f w2 ⟨f1, x, hx, f5, H⟩
    simp only [f1, f5]
    refine rdi (bin_rem (by omega)) ?_
    exact fin x w2 hx H
theorem one_c (H : Apt w0 w L) (i : Nat) (hi : L[i]? = some (cur bc (.slice C bs.length cap) N)) (hC : Byts w0 C bs) (hN : N ≤ 100000000) {n : Int} (hn : n ≤ 60000) (hk : ∀ w' (b : Bool), Apt w0 w' (L.set i (cur bc (.slice C bs.length cap) (N + 2))) → k (.bool b) w') :
    CallK Try.prog 176 [ptrv bc, .int .i64 n] k w := by
  refine enter176 ?_
  unfold S176
  refine pick_c H i hi hC hN hn fun w1 b _ _ H => ?_
  simp only [bin_add, bin_sub, bin_mul, bin_eql, bin_neq, bin_lss, bin_leq, bin_gtr, bin_geq, un_not, un_neg, pick_true, pick_false, extract_two_0, extract_two_1, nilCheck_pointer, cond_true', cond_false', guard_tt, guard_ff, guard_tf, guard_ft, guard_undef, seqQ_normal, seqQ_ret, seqQ_exit, blockQ_ret, blockQ_normal, blockQ_exit, bodyQ_ret, bodyQ_normal, resK_nil, resK_tmp, ite_T, ite_F, upd_at, add_plain, add_zero', Nat.reduceEqDiff, len22, len24, len27, len35, fa26_0, fa26_1, fa26_2, fa33_0, fa33_1, fa114_0, fa114_1, fa114_2]
  exact hk _ _ H
theorem among_c (H : Apt w0 w L) (i : Nat) (hi : L[i]? = some (cur bc (.slice C bs.length cap) N)) (hC : Byts w0 C bs) (hN : N ≤ 100000000) {Z : Option Addr} {n cz : Nat} {xs : List Int} (hZ : ∀ w', Apt w0 w' (L.set i (cur bc (.slice C bs.length cap) (N + 2))) → Ints w' Z xs) (hn : n = xs.length) (h0 : 0 < xs.length) (hl : xs.length ≤ 60000) (hk : ∀ w' (j : Nat), j < xs.length → Apt w0 w' (L.set i (cur bc (.slice C bs.length cap) (N + 2))) → k (.int .i64 (xs.getD j 0)) w') :
    CallK Try.prog 156 [ptrv bc, .slice Z n cz] k w := by
  subst hn
  refine enter156 ?_
  unfold S156
  simp only [bin_add, bin_sub, bin_mul, bin_eql, bin_neq, bin_lss, bin_leq, bin_gtr, bin_geq, un_not, un_neg, pick_true, pick_false, extract_two_0, extract_two_1, nilCheck_pointer, cond_true', cond_false', guard_tt, guard_ff, guard_tf, guard_ft, guard_undef, seqQ_normal, seqQ_ret, seqQ_exit, blockQ_ret, blockQ_normal, blockQ_exit, bodyQ_ret, bodyQ_normal, resK_nil, resK_tmp, ite_T, ite_F, upd_at, add_plain, add_zero', Nat.reduceEqDiff, len22, len24, len27, len35, fa26_0, fa26_1, fa26_2, fa33_0, fa33_1, fa114_0, fa114_1, fa114_2]
  refine pick_c H i hi hC hN (by omega) fun w1 b h1 h2 H => ?_
  have hb : b < xs.length := by
    by_cases h : (xs.length : Int) ≤ 1
    · have := h1 h; omega
    · have := h2 (by omega); omega
  have hz := hZ w1 H
  refine rdi (ixn27 hz.ptr hb) (rdi (ld3 (hz.cell b hb)) ?_)
  exact hk w1 b hb H
end
end Go.Proofs.Ytegcjkhebecgbaa
