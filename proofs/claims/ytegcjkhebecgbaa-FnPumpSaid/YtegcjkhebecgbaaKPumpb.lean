/- Texts of this repository put together: ShK, ShC1, ShC2, ShG5, ShG6, ShH1, ShH2, ShH3, ShH4, ShH5, ShK2, ShP2, ShK3, ShV, ShP1, Be, ShQ1, ShQ2. -/
import Derived.Test.YtegcjkhebecgbaaKPumpa
import Derived.Test.YtegcjkhebecgbaaProg

set_option linter.unusedVariables false
set_option linter.unusedSimpArgs false
set_option maxRecDepth 100000
namespace Go.Sh
open Go
structure Thing where
  P : World → Prop
  ft : Nat → Prop
structure Thing.Ok (it : Thing) (w0 w : World) : Prop where
  lo : ∀ q, it.ft q → w0.heap.size ≤ q
  hi : ∀ q, it.ft q → q < w.heap.size
  kept : ∀ w', (∀ q, it.ft q → w'.heap[q]? = w.heap[q]?) → it.P w'
theorem Thing.Ok.step {it : Thing} {w0 w w' : World} (h : it.Ok w0 w) (hs : w.heap.size ≤ w'.heap.size) (hb : ∀ q, it.ft q → w'.heap[q]? = w.heap[q]?) : it.Ok w0 w' :=
  ⟨h.lo, fun q hq => Nat.lt_of_lt_of_le (h.hi q hq) hs, fun w'' h'' => h.kept w'' fun q hq => (h'' q hq).trans (hb q hq)⟩
structure Apt (w0 w : World) (L : List Thing) : Prop where
  gr : Gr w0 w
  ok : ∀ (i : Nat) (it : Thing), L[i]? = some it → it.Ok w0 w
  two : ∀ (i j : Nat) (a b : Thing), i ≠ j → L[i]? = some a → L[j]? = some b → ∀ q, a.ft q → ¬ b.ft q
theorem zkp_ {L : List Thing} {x a : Thing} {i : Nat} (h : (L ++ [x])[i]? = some a) : L[i]? = some a ∨ (i = L.length ∧ a = x) := by
  by_cases hi : i < L.length
  · rw [List.getElem?_append_left hi] at h
    exact .inl h
  · rw [List.getElem?_append_right (by omega)] at h
    have : i - L.length = 0 := by
      have := (List.getElem?_eq_some_iff.1 h).1
      simpa using this
    rw [this] at h
    refine .inr ⟨by omega, ?_⟩
    simpa using h.symm
theorem get_lt {L : List Thing} {a : Thing} {i : Nat} (h : L[i]? = some a) : i < L.length := (List.getElem?_eq_some_iff.1 h).1
theorem zuj_ {L : List Thing} {x a : Thing} {i j : Nat} (h : (L.set i x)[j]? = some a) : (j = i ∧ a = x) ∨ (j ≠ i ∧ L[j]? = some a) := by
  rw [List.getElem?_set] at h
  by_cases hij : i = j
  · rw [if_pos hij] at h
    split at h
    · exact .inl ⟨hij.symm, by simpa using h.symm⟩
    · cases h
  · rw [if_neg hij] at h
    exact .inr ⟨fun e => hij e.symm, h⟩
theorem Apt.nil (w : World) : Apt w w [] := ⟨Gr.refl w, fun i it h => by simp at h, fun i j a b _ h => by simp at h⟩
theorem Apt.step {w0 w w' : World} {L : List Thing} (H : Apt w0 w L) (g : Gr w w') : Apt w0 w' L :=
  ⟨zf_ H.gr g, fun i it hi => (H.ok i it hi).step g.size fun q hq => g.block q ((H.ok i it hi).hi q hq) (by simp), H.two⟩
theorem Apt.drew {w0 w : World} {L : List Thing} (H : Apt w0 w L) : Apt w0 w.drew L := H.step (zcb_ w)
theorem Apt.get {w0 w : World} {L : List Thing} (H : Apt w0 w L) (i : Nat) {it : Thing} (hi : L[i]? = some it) : it.P w := (H.ok i it hi).kept w fun _ _ => rfl
theorem Apt.add {w0 w w' : World} {L : List Thing} (H : Apt w0 w L) (g : Gr w w') (it : Thing) (lo : ∀ q, it.ft q → w.heap.size ≤ q) (hi : ∀ q, it.ft q → q < w'.heap.size) (kept : ∀ w'', (∀ q, it.ft q → w''.heap[q]? = w'.heap[q]?) → it.P w'') : Apt w0 w' (L ++ [it]) := by
  have H' := H.step g
  refine ⟨H'.gr, fun i a ha => ?_, fun i j a b hij ha hb q hq hq' => ?_⟩
  · rcases zkp_ ha with h | ⟨_, rfl⟩
    · exact H'.ok i a h
    · exact ⟨fun q hq => Nat.le_trans H.gr.size (lo q hq), hi, kept⟩
  · rcases zkp_ ha with h | ⟨e, rfl⟩ <;> rcases zkp_ hb with h' | ⟨e', rfl⟩
    · exact H.two i j a b hij h h' q hq hq'
    · have := (H.ok i a h).hi q hq
      have := lo q hq'
      omega
    · have := (H.ok j b h').hi q hq'
      have := lo q hq
      omega
    · exact hij (e.trans e'.symm)
theorem Apt.set {w0 w w' : World} {L : List Thing} (H : Apt w0 w L) {i : Nat} {it it' : Thing} (hi : L[i]? = some it) (g : Gx it.ft w w') (lo : ∀ q, it'.ft q → it.ft q ∨ w.heap.size ≤ q) (hh : ∀ q, it'.ft q → q < w'.heap.size) (kept : ∀ w'', (∀ q, it'.ft q → w''.heap[q]? = w'.heap[q]?) → it'.P w'') : Apt w0 w' (L.set i it') := by
  have hit := H.ok i it hi
  have hsz := H.gr.size
  refine ⟨Gx.gr_after H.gr g fun q hq => hit.lo q hq, fun j a ha => ?_, fun j l a b hjl ha hb q hq hq' => ?_⟩
  · rcases zuj_ ha with ⟨rfl, rfl⟩ | ⟨hj, h⟩
    · refine ⟨fun q hq => ?_, hh, kept⟩
      rcases lo q hq with h | h
      · exact hit.lo q h
      · omega
    · have := H.ok j a h
      exact this.step g.size fun q hq => g.block q (this.hi q hq) fun hq' => H.two j i a it hj h hi q hq hq'
  · rcases zuj_ ha with ⟨rfl, rfl⟩ | ⟨hj, h⟩ <;> rcases zuj_ hb with ⟨rfl, rfl⟩ | ⟨hl, h'⟩
    · exact hjl rfl
    · rcases lo q hq with h2 | h2
      · exact H.two _ _ _ _ (fun e => hl e.symm) hi h' q h2 hq'
      · have := (H.ok l b h').hi q hq'
        omega
    · rcases lo q hq' with h2 | h2
      · exact H.two _ _ _ _ hj h hi q hq h2
      · have := (H.ok j a h).hi q hq
        omega
    · exact H.two j l a b hjl h h' q hq hq'
theorem Apt.pick {w0 w : World} {L L' : List Thing} (H : Apt w0 w L) (m : Nat → Nat) (h : ∀ i a, L'[i]? = some a → L[m i]? = some a) (hm : ∀ i j, i < L'.length → j < L'.length → m i = m j → i = j) : Apt w0 w L' :=
  ⟨H.gr, fun i a ha => H.ok _ a (h i a ha), fun i j a b hij ha hb => H.two _ _ a b (fun e => hij (hm i j (get_lt ha) (get_lt hb) e)) (h i a ha) (h j b hb)⟩
theorem Apt.take {w0 w : World} {L : List Thing} (H : Apt w0 w L) (n : Nat) : Apt w0 w (L.take n) := by
  have h : ∀ (i : Nat) (a : Thing), (L.take n)[i]? = some a → L[i]? = some a := fun i a ha => by
    rw [List.getElem?_take] at ha
    split at ha
    · exact ha
    · cases ha
  exact ⟨H.gr, fun i a ha => H.ok i a (h i a ha), fun i j a b hij ha hb => H.two i j a b hij (h i a ha) (h j b hb)⟩

theorem Apt.append {w0 w1 w2 : World} {L M : List Thing} (H : Apt w0 w1 L) (G : Apt w1 w2 M) : Apt w0 w2 (L ++ M) := by
  have H' := H.step G.gr
  have get : ∀ (i : Nat) (a : Thing), (L ++ M)[i]? = some a → (i < L.length ∧ L[i]? = some a) ∨ (L.length ≤ i ∧ M[i - L.length]? = some a) := fun i a ha => by
    by_cases h : i < L.length
    · rw [List.getElem?_append_left h] at ha
      exact .inl ⟨h, ha⟩
    · rw [List.getElem?_append_right (by omega)] at ha
      exact .inr ⟨by omega, ha⟩
  refine ⟨H'.gr, fun i a ha => ?_, fun i j a b hij ha hb q hq hq' => ?_⟩
  · rcases get i a ha with ⟨_, h⟩ | ⟨_, h⟩
    · exact H'.ok i a h
    · have := G.ok _ a h
      exact ⟨fun q hq => Nat.le_trans H.gr.size (this.lo q hq), this.hi, this.kept⟩
  · rcases get i a ha with ⟨h1, h⟩ | ⟨h1, h⟩ <;> rcases get j b hb with ⟨h2, h'⟩ | ⟨h2, h'⟩
    · exact H.two i j a b hij h h' q hq hq'
    · have := (H.ok i a h).hi q hq
      have := (G.ok _ b h').lo q hq'
      omega
    · have := (H.ok j b h').hi q hq'
      have := (G.ok _ a h).lo q hq
      omega
    · exact G.two _ _ a b (by omega) h h' q hq hq'
theorem Apt.swap {w0 w : World} {a b : Thing} (H : Apt w0 w [a, b]) : Apt w0 w [b, a] :=
  H.pick (fun i => 1 - i) (fun i x hx => by
    match i, hx with
    | 0, hx => exact hx
    | 1, hx => exact hx
    | i + 2, hx => simp at hx) (fun i j hi hj e => by simp at hi hj; omega)
theorem zmd_ {b : (F → World → Prop) → Prop} {n : F → World → Prop} (C : F → World → Prop) (hb : ∀ K, (∀ f w, C f w → K f w) → b K) (hn : ∀ f w, C f w → n f w) : Join b n := hb n hn
theorem Row.same {w w' : World} {B e sz n c : Nat} {X : Option Addr} {cells : List Value} (h : Row w B e sz X n c cells) (hs : ∀ q, blk X = some q → w'.heap[q]? = w.heap[q]?) : Row w' B e sz X n c cells := by
  obtain ⟨hl, h2⟩ := h
  refine ⟨hl, ?_⟩
  rcases h2 with h2 | ⟨q, cap, cur, e1, e2, e3, e4⟩
  · exact .inl h2
  · refine .inr ⟨q, cap, cur, e1, e2, ?_, e4⟩
    obtain ⟨rfl, _, _⟩ : X = some ⟨q, 0, none⟩ ∧ n = n ∧ c = cap := by simpa using e1
    rw [hs q rfl]
    exact e3
theorem Row.up {w : World} {B B' e sz n c : Nat} {X : Option Addr} {cells : List Value} (h : Row w B e sz X n c cells) (hb : ∀ q, blk X = some q → B' ≤ q) : Row w B' e sz X n c cells := by
  obtain ⟨hl, h2⟩ := h
  refine ⟨hl, ?_⟩
  rcases h2 with h2 | ⟨q, cap, cur, e1, e2, e3⟩
  · exact .inl h2
  · obtain ⟨rfl, _, _⟩ : X = some ⟨q, 0, none⟩ ∧ n = n ∧ c = cap := by simpa using e1
    exact .inr ⟨q, cap, cur, e1, hb q rfl, e3⟩
theorem OwnR.same {e1 e2 : Nat} {w w' : World} {B : Nat} {X : Option Addr} {c : Nat} {rs : List RuleL} {ps : Nat → Option Addr × Nat} (h : OwnR e1 e2 w B X c rs ps) (hs : ∀ q, Foot X ps rs.length q → w'.heap[q]? = w.heap[q]?) : OwnR e1 e2 w' B X c rs ps := by
  obtain ⟨⟨cells, hr, hc⟩, ho, ht⟩ := h
  exact ⟨⟨cells, hr.same fun q hq => hs q (.inl hq), hc⟩, fun j hj => Row.same (ho j hj) fun q hq => hs q (.inr ⟨j, hj, hq⟩), ht⟩
theorem OwnR.up {e1 e2 : Nat} {w : World} {B B' : Nat} {X : Option Addr} {c : Nat} {rs : List RuleL} {ps : Nat → Option Addr × Nat} (h : OwnR e1 e2 w B X c rs ps) (hs : ∀ q, Foot X ps rs.length q → B' ≤ q) : OwnR e1 e2 w B' X c rs ps := by
  obtain ⟨⟨cells, hr, hc⟩, ho, ht⟩ := h
  exact ⟨⟨cells, hr.up fun q hq => hs q (.inl hq), hc⟩, fun j hj => Row.up (ho j hj) fun q hq => hs q (.inr ⟨j, hj, hq⟩), ht⟩
def bx (b : Nat) (cs : List Value) (t : TypeId) : Thing := ⟨fun w => Box w b cs t, fun q => q = b⟩
def rwi (e sz : Nat) (X : Option Addr) (n c : Nat) (cells : List Value) : Thing := ⟨fun w => Row w 0 e sz X n c cells, fun q => blk X = some q⟩
def rls (e1 e2 : Nat) (X : Option Addr) (c : Nat) (rs : List RuleL) (ps : Nat → Option Addr × Nat) : Thing := ⟨fun w => OwnR e1 e2 w 0 X c rs ps, Foot X ps rs.length⟩
theorem zkm_ {w : World} {b t : Nat} {cs : List Value} (h : Box w b cs t) : ∀ w', (∀ q, (bx b cs t).ft q → w'.heap[q]? = w.heap[q]?) → (bx b cs t).P w' := fun w' hq => (hq b rfl).trans h
theorem zdk_ {w : World} {B e sz n c : Nat} {X : Option Addr} {cells : List Value} (h : Row w B e sz X n c cells) : ∀ w', (∀ q, (rwi e sz X n c cells).ft q → w'.heap[q]? = w.heap[q]?) → (rwi e sz X n c cells).P w' := fun w' hq => (Row.mono h (Nat.zero_le B)).same hq
section
variable {w0 w w' : World} {L : List Thing}
theorem Apt.box (H : Apt w0 w L) (i : Nat) {b t : Nat} {cs : List Value} (hi : L[i]? = some (bx b cs t)) : Box w b cs t := H.get i hi
theorem Apt.row (H : Apt w0 w L) (i : Nat) {e sz n c : Nat} {X : Option Addr} {cells : List Value} (hi : L[i]? = some (rwi e sz X n c cells)) : Row w w0.heap.size e sz X n c cells := Row.up (H.get i hi) (H.ok i _ hi).lo
theorem Apt.rules (H : Apt w0 w L) (i : Nat) {e1 e2 c : Nat} {X : Option Addr} {rs : List RuleL} {ps : Nat → Option Addr × Nat} (hi : L[i]? = some (rls e1 e2 X c rs ps)) : OwnR e1 e2 w w0.heap.size X c rs ps := OwnR.up (H.get i hi) (H.ok i _ hi).lo
theorem Apt.addBox (H : Apt w0 w L) (g : Gr w w') {b t : Nat} {cs : List Value} (hb : w.heap.size ≤ b) (h : Box w' b cs t) : Apt w0 w' (L ++ [bx b cs t]) := H.add g _ (fun q hq => (show q = b from hq) ▸ hb) (fun q hq => (show q = b from hq) ▸ h.lt) (zkm_ h)
theorem Apt.addRow (H : Apt w0 w L) (g : Gr w w') {e sz n c : Nat} {X : Option Addr} {cells : List Value} (h : Row w' w.heap.size e sz X n c cells) : Apt w0 w' (L ++ [rwi e sz X n c cells]) := H.add g _ (fun q hq => (Row.ge h hq).1) (fun q hq => (Row.ge h hq).2) (zdk_ h)
theorem Apt.addNil (H : Apt w0 w L) (e sz : Nat) : Apt w0 w (L ++ [rwi e sz none 0 0 []]) := H.addRow (Gr.refl w) (Row.nil _ _ _ _)
end
theorem zbf_ {σ : Type} {W : List Nat} {body : (Exit → F → World → Prop) → F → World → Prop} {Q : Exit → F → World → Prop} {f0 : F} {w0 : World} (J : σ → F → World → Prop) (m : σ → Nat) (s0 : σ) (h0 : J s0 f0 w0)
    (h : ∀ s f w (N : F → World → Prop), Agree W f0 f → J s f w → (∀ s' f' w', J s' f' w' → m s' < m s → N f' w') → body (seqQ N Q) f w) : zfb_ W body Q f0 w0 := by
  classical
  have hm : ∃ μ : F → World → Nat, (∀ f w s, J s f w → μ f w ≤ m s) ∧ ∀ f w, (∃ s, J s f w) → ∃ s, J s f w ∧ m s = μ f w := by
    have key : ∀ f w, ∃ n, (∀ s, J s f w → n ≤ m s) ∧ ((∃ s, J s f w) → ∃ s, J s f w ∧ m s = n) := fun f w => by
      by_cases hx : ∃ s, J s f w
      · have : ∃ n, ∃ s, J s f w ∧ m s = n := by
          obtain ⟨s, hs⟩ := hx
          exact ⟨_, s, hs, rfl⟩
        have ind : ∀ n, (∃ s, J s f w ∧ m s = n) → ∃ n, (∀ s, J s f w → n ≤ m s) ∧ ∃ s, J s f w ∧ m s = n := by
          intro n
          induction n using Nat.strongRecOn with
          | _ n ih =>
            intro hn
            by_cases hlt : ∃ s, J s f w ∧ m s < n
            · obtain ⟨s, hs, hl⟩ := hlt
              exact ih _ hl ⟨s, hs, rfl⟩
            · exact ⟨n, fun s hs => Classical.byContradiction fun hc => hlt ⟨s, hs, by omega⟩, hn⟩
        obtain ⟨n, hn⟩ := this
        obtain ⟨n', h1, h2⟩ := ind n hn
        exact ⟨n', h1, fun _ => h2⟩
      · exact ⟨0, fun s hs => absurd ⟨s, hs⟩ hx, fun e => absurd e hx⟩
    exact ⟨fun f w => Classical.choose (key f w), fun f w s hs => (Classical.choose_spec (key f w)).1 s hs, fun f w hx => (Classical.choose_spec (key f w)).2 hx⟩
  obtain ⟨μ, hμ1, hμ2⟩ := hm
  refine ⟨fun f w => ∃ s, J s f w, μ, ⟨s0, h0⟩, fun f w hag hx => ?_⟩
  obtain ⟨s, hs, hms⟩ := hμ2 f w hx
  refine h s f w _ hag hs fun s' f' w' hs' hlt => ⟨⟨s', hs'⟩, ?_⟩
  have := hμ1 f' w' s' hs'
  omega
theorem zhb_ {W : List Nat} {body : (Exit → F → World → Prop) → F → World → Prop} {Q : Exit → F → World → Prop} {f0 : F} {w0 : World} (n a : Nat) (J : Nat → F → World → Prop) (h0 : J a f0 w0)
    (h : ∀ i f w (N : F → World → Prop), Agree W f0 f → J i f w → (∀ f' w', i < n → J (i + 1) f' w' → N f' w') → body (seqQ N Q) f w) : zfb_ W body Q f0 w0 :=
  zbf_ J (fun i => n - i) a h0 fun i f w N hag hJ hN => by
    by_cases hlt : i < n
    · exact h i f w N hag hJ fun f' w' _ hJ' => hN (i + 1) f' w' hJ' (by omega)
    · exact h i f w N hag hJ fun f' w' hlt' _ => absurd hlt' hlt
theorem rng6 : Array.range 6 = #[0, 1, 2, 3, 4, 5] := by decide
theorem rdi {A B : Prop} (e : A = B) (h : B) : A := e ▸ h
theorem all_one {vs : List Value} (h : vs.all Value.oneCell' = true) : ∀ v ∈ vs, v.oneCell' = true := fun v hv => List.all_eq_true.1 h v hv
section
variable {P : Program} {k : Value → World → Prop} {w0 w : World} {L : List Thing}
theorem boxH (H : Apt w0 w L) {t : TypeId} {v : Value} (h : ∀ b w', Apt w0 w' (L ++ [bx b v.cells.toList t]) → k (.pointer (some ⟨b, 0, none⟩)) w') : Do P (sBox t v) k w :=
  zpd_ fun b w' g hb hB => h b w' (H.addBox g hb hB)
theorem zid_ (H : Apt w0 w L) {t sz by' : Nat} {z : Value} (I : Inf P t z sz by') (h : ∀ b w', Apt w0 w' (L ++ [bx b z.cells.toList t]) → k (.pointer (some ⟨b, 0, none⟩)) w') : Do P (zvb_ t) k w :=
  zag_ I fun b w' g hb hB => h b w' (H.addBox g hb hB)
theorem zyb_ (H : Apt w0 w L) (i : Nat) {b e : Nat} {cs : List Value} (hi : L[i]? = some (bx b cs e)) {t n off : Nat} {v : Value} (hs : szOf P t n) (hv : v.cells.size = n) (h1 : v.cells.toList.all Value.oneCell' = true) (hl : Nat.ble (off + n) cs.length = true)
    (h : ∀ w', Apt w0 w' (L.set i (bx b (cs.take off ++ v.cells.toList ++ cs.drop (off + n)) e)) → k undef w') : Do P (zx_ t (.pointer (some ⟨b, off, none⟩)) v) k w :=
  zwi_ hs hv (all_one h1) (H.box i hi) (Nat.le_of_ble_eq_true hl) fun w' g hsz hb => h w' (H.set hi (gx_of g fun q hq => by cases hq; rfl) (fun q hq => .inl hq) (fun q hq => (show q = b from hq) ▸ hb.lt) (zkm_ hb))
theorem zuh_ (H : Apt w0 w L) (i : Nat) {t e u sz by' n c m d : Nat} {X Y : Option Addr} {cells news : List Value} {z : Value} (hi : L[i]? = some (rwi e sz X n c cells)) (ht : P.underlying t = some (.slice e)) (I : Inf P e z sz by') (hzs : z.cells.size = sz) (hsz : 0 < sz)
    {cs : List Bool} (hS : Src w Y news) (hl : news.length = m * sz) (h1 : ∀ v ∈ news, v.oneCell' = true) (hm : (n + m) * by' ≤ 140737488355328) (hmax : n + m ≤ 9223372036854775807)
    (h : ∀ X' c' w', Apt w0 w' (L.set i (rwi e sz X' (n + m) c' (cells ++ news))) → k (.slice X' (n + m) c') w') : Do P (ze_ .append #[t, t] u cs [.slice X n c, .slice Y m d]) k w :=
  zih_ ht I hzs hsz (H.row i hi) hS hl h1 hm hmax H.gr.size fun X' c' w' hr hg hmv => h X' c' w' (H.set hi (gx_of hg fun q hq => hq) (fun q hq => by
    rcases hmv with e | e
    · exact .inl (show blk X = some q from e ▸ (show blk X' = some q from hq))
    · exact .inr (e q hq)) (fun q hq => (Row.ge hr hq).2) (zdk_ hr))
theorem makeH (H : Apt w0 w L) {t e sz by' : Nat} {z : Value} (ht : P.underlying t = some (.slice e)) (I : Inf P e z sz by') {kl kc : IntKind} {n : Nat} (hm : by' * n ≤ 281474976710656) (hmax : n ≤ 9223372036854775807)
    (h : ∀ b w', Apt w0 w' (L ++ [rwi e sz (some ⟨b, 0, none⟩) n n (madeCells z.cells (n * sz)).toList]) → k (.slice (some ⟨b, 0, none⟩) n n) w') : Do P (zvc_ t (.int kl n) (.int kc n)) k w :=
  zgr_ ht I hm hmax fun b w' hb hb' g hr => h b w' (H.addRow g (hr _ (Nat.le_refl _)))
theorem zjd_ (H : Apt w0 w L) {t e sz by' n : Nat} {z : Value} (ht : P.underlying t = some (.slice e)) (I : Inf P e z sz by') {ps : List (Nat × Value)} (cells : List Value) (hn : n * sz ≤ 16777216) (hn' : n ≤ 9223372036854775807)
    (hf : Instr.fill (fun j => some (j * sz, sz)) (madeCells (if n * sz = 0 then #[] else z.cells) (n * sz)) ps = some cells.toArray) (hl : cells.length = n * sz)
    (h : ∀ b w', Apt w0 w' (L ++ [rwi e sz (some ⟨b, 0, none⟩) n n cells]) → k (.slice (some ⟨b, 0, none⟩) n n) w') : Do P (zh_ t n ps) k w :=
  zbb_ ht I hn hn' hf hl fun b w' hb hb' g hB hr => h b w' (H.addRow g (hr _ (Nat.le_refl _)))
end
section
variable {P : Program} {k : Value → Prop}
theorem rdG {w : World} {h : Gr w w} {t off b e : Nat} {cs : List Value} {v : Value} (ht : one P t) (hb : Box w b cs e) (hc : cs[off]? = some v) : Rd P ⟨fun w' => Gr w w', w, h⟩ (zc_ t (.pointer (some ⟨b, off, none⟩))) k = k v :=
  zmc_ ht fun w' hw => ((hb.gr hw).cell off).trans hc
theorem zmm_ {w : World} {h : Gr w w} {t b e n : Nat} {cs : List Value} (ht : agg P t) (hs : szOf P t n) (hn : cs.length = n) (hb : Box w b cs e) : Rd P ⟨fun w' => Gr w w', w, h⟩ (zc_ t (.pointer (some ⟨b, 0, none⟩))) k = k (.agg cs.toArray) :=
  zhh_ ht hs hn fun w' hw j hj => by
    rw [zq34, Nat.zero_add, (hb.gr hw).cell]
    exact List.getElem?_eq_getElem hj
end
end Go.Sh
namespace Go.Proofs.Ytegcjkhebecgbaa
open Go Go.Sh Go.RowKit
def ows (X : Option Addr) (c : Nat) (xs : List Int) : Thing := rwi 3 1 X xs.length c (ints xs)
section
variable {k : Value → World → Prop} {w0 w w' : World} {L : List Thing}
theorem _root_.Go.Sh.Apt.own (H : Apt w0 w L) (i : Nat) {c : Nat} {X : Option Addr} {xs : List Int} (hi : L[i]? = some (ows X c xs)) : Own 3 w w0.heap.size X c xs := H.row i hi
theorem _root_.Go.Sh.Apt.ints (H : Apt w0 w L) (i : Nat) {c : Nat} {X : Option Addr} {xs : List Int} (hi : L[i]? = some (ows X c xs)) : Ints w X xs := Own.ints (H.own i hi)
theorem _root_.Go.Sh.Apt.addOwn (H : Apt w0 w L) (g : Gr w w') {c : Nat} {X : Option Addr} {xs : List Int} (h : Own 3 w' w.heap.size X c xs) : Apt w0 w' (L ++ [ows X c xs]) := H.addRow g h
theorem apH (H : Apt w0 w L) (i : Nat) {u n c m d : Nat} {X Y : Option Addr} {xs ys : List Int} (hi : L[i]? = some (ows X c xs)) {cs : List Bool} (hY : Ints w Y ys) (hn : n = xs.length) (hm : m = ys.length) (hb : (xs.length + ys.length) * 8 ≤ 140737488355328)
    (h : ∀ X' c' w', Apt w0 w' (L.set i (ows X' c' (xs ++ ys))) → k (.slice X' (xs ++ ys).length c') w') : Do Try.prog (ze_ .append #[27, 27] u cs [.slice X n c, .slice Y m d]) k w := by
  subst hn
  subst hm
  refine zuh_ H i hi u27 inf3 rfl (by decide) hY.src (by rw [zhe_, Nat.mul_one]) (zhp_ ys) hb (by omega) fun X' c' w' H' => ?_
  rw [← zwm_, ← List.length_append] at H'
  rw [← List.length_append]
  exact h X' c' w' H'
theorem pushH {k : Value → Value → World → Prop} (H : Apt w0 w L) (i : Nat) {u n c : Nat} {X : Option Addr} {xs : List Int} {x : Int} (hi : L[i]? = some (ows X c xs)) {cs : List Bool} (hn : n = xs.length) (hb : xs.length ≤ 1000000000)
    (h : ∀ t X' c' w', Apt w0 w' (L.set i (ows X' c' (xs ++ [x]))) → k t (.slice X' (xs ++ [x]).length c') w') : Do Try.prog (zh_ 27 1 [(0, .int .i64 x)]) (fun t w1 => Do Try.prog (ze_ .append #[27, 27] u cs [.slice X n c, t]) (k t) w1) w := by
  refine bs27 [.int .i64 x] (by decide) (by simp [Instr.fill, madeCells, Value.cells, rng1]) rfl fun b w1 hb1 hb2 g hB hr => ?_
  refine apH (H.step g) i hi (ys := [x]) (Own.ints (show Own 3 w1 w.heap.size (some ⟨b, 0, none⟩) 1 [x] from hr _ (Nat.le_refl _))) hn rfl (by simp; omega) fun X' c' w' H' => h _ X' c' w' H'
end
end Go.Proofs.Ytegcjkhebecgbaa

namespace Go.Sh
open Go
def seg (xs : List Int) (a b : Int) : List Int := (xs.drop a.toNat).take (b.toNat - a.toNat)
def rep (m : Nat) (l : List Int) : List Int := (List.replicate m l).flatten
theorem zcd_ (m : Nat) (l : List Int) : rep (m + 1) l = rep m l ++ l := by
  unfold rep
  rw [List.replicate_succ', List.flatten_append]
  simp
theorem zcf_ (m : Nat) (l : List Int) : (rep m l).length = m * l.length := by
  induction m with
  | zero => simp [rep]
  | succ m ih => rw [zcd_, List.length_append, ih, Nat.succ_mul]
structure Cuts (cs : List Int) (n : Nat) : Prop where
  len : cs.length = 4
  lo : 0 ≤ cs.getD 0 0
  h01 : cs.getD 0 0 ≤ cs.getD 1 0
  h12 : cs.getD 1 0 ≤ cs.getD 2 0
  h23 : cs.getD 2 0 ≤ cs.getD 3 0
  hi : cs.getD 3 0 ≤ n
instance (cs : List Int) (n : Nat) : Decidable (Cuts cs n) :=
  decidable_of_iff (cs.length = 4 ∧ 0 ≤ cs.getD 0 0 ∧ cs.getD 0 0 ≤ cs.getD 1 0 ∧ cs.getD 1 0 ≤ cs.getD 2 0 ∧ cs.getD 2 0 ≤ cs.getD 3 0 ∧ cs.getD 3 0 ≤ n)
    ⟨fun ⟨a, b, c, d, e, f⟩ => ⟨a, b, c, d, e, f⟩, fun h => ⟨h.len, h.lo, h.h01, h.h12, h.h23, h.hi⟩⟩
def zwb_ (xs cs : List Int) (m : Nat) : List Int :=
  seg xs 0 (cs.getD 0 0) ++ rep m (seg xs (cs.getD 0 0) (cs.getD 1 0)) ++ seg xs (cs.getD 1 0) (cs.getD 2 0) ++ rep m (seg xs (cs.getD 2 0) (cs.getD 3 0)) ++ seg xs (cs.getD 3 0) xs.length
end Go.Sh
namespace Go.Proofs.Ytegcjkhebecgbaa
open Go Go.Sh Go.RowKit

theorem zbh_ {w : World} {X : Option Addr} {c n : Nat} {xs : List Int} (hx : Ints w X xs) (hn : n = xs.length) (hb : xs.length * 8 ≤ 140737488355328) {k : Value → World → Prop}
    (hk : ∀ X' c' w', Gr w w' → Own 3 w' w.heap.size X' c' xs → k (.slice X' xs.length c') w') : CallK Try.prog 158 [.slice X n c] k w := by
  subst hn
  refine enter158 ?_
  unfold S158
  refine bs27 [] (by decide) (by simp [Instr.fill, madeCells]) rfl fun b w1 hb1 hb2 hg hbox hrow => ?_
  refine ap27 (hrow _ (Nat.le_refl _)) (hx.gr hg).src (by rw [zhe_, Nat.mul_one]) (zhp_ xs) (by omega) hg.size fun X' c' w2 hr hg2 => ?_
  rw [Nat.zero_add] at hr ⊢
  exact hk X' c' w2 (zxf_ hg hg2 fun q hq => by simp [blk] at hq; omega) hr

theorem apI {u : TypeId} {cs : List Bool} {w : World} {k : Value → World → Prop} {B c d n m : Nat} {X Y : Option Addr} {xs ys : List Int} (hO : Own 3 w B X c xs) (hY : Ints w Y ys) (hn : n = xs.length) (hm : m = ys.length) (hb : (xs.length + ys.length) * 8 ≤ 140737488355328) (hB : B ≤ w.heap.size)
    (h : ∀ X' c' w', Own 3 w' B X' c' (xs ++ ys) → w.grownBy w' (blk X) → k (.slice X' (xs ++ ys).length c') w') : Do Try.prog (ze_ .append #[27, 27] u cs [.slice X n c, .slice Y m d]) k w := by
  subst hn
  subst hm
  refine ap27 hO hY.src (by rw [zhe_, Nat.mul_one]) (zhp_ ys) hb hB fun X' c' w' hr hg => ?_
  rw [← zwm_, ← List.length_append] at hr
  rw [← List.length_append]
  exact h X' c' w' hr hg

theorem zdd_ {w : World} {X : Option Addr} {xs : List Int} {c : Nat} (h : Ints w X xs) (hc : xs.length ≤ c) {a b : Int} (h0 : 0 ≤ a) (h1 : a ≤ b) (h2 : b ≤ xs.length) : Ints w (sub X a.toNat c 1) (seg xs a b) ∧ (seg xs a b).length = b.toNat - a.toNat := by
  refine ⟨h.sub (by omega) hc _, ?_⟩
  unfold seg
  simp
  omega

theorem zju_ {w : World} {X Y : Option Addr} {c d : Nat} {xs cs : List Int} {m : Nat} (hx : Ints w X xs) (hc : xs.length ≤ c) (hy : Ints w Y cs) (hcs : Cuts cs xs.length) (hl : xs.length ≤ 100) (hm : m ≤ 4) {k : Value → World → Prop}
    (hk : ∀ X' c' w', Gr w w' → Own 3 w' w.heap.size X' c' (zwb_ xs cs m) → k (.slice X' (zwb_ xs cs m).length c') w') : CallK Try.prog 226 [.slice X xs.length c, .slice Y cs.length d, .int .i64 m] k w := by
  obtain ⟨h4, c0, c1, c2, c3, c4⟩ := hcs
  refine enter226 ?_
  unfold S226
  rw [zvd_ hy.ptr (by omega), ld3 (hy.cell 0 (by omega)), slh27 c0 (by omega)]
  obtain ⟨p0, l0⟩ := zdd_ hx hc (Int.le_refl 0) c0 (by omega)
  refine zbh_ p0 (by rw [l0]; simp) (by rw [l0]; omega) fun X1 d1 w1 g1 o1 => ?_
  have hb1 : (seg xs 0 (cs.getD 0 0)).length ≤ 100 := by omega
  obtain ⟨p1, l1⟩ := zdd_ hx hc c0 c1 (by omega)
  obtain ⟨p2, l2⟩ := zdd_ hx hc (by omega) c2 (by omega)
  obtain ⟨p3, l3⟩ := zdd_ hx hc (by omega) c3 (by omega)
  obtain ⟨p4, l4⟩ := zdd_ hx hc (a := cs.getD 3 0) (b := xs.length) (by omega) c4 (Int.le_refl _)
  refine ⟨fun f w' => ∃ (i : Nat) (X' : Option Addr) (c' : Nat), i ≤ m ∧ f 8 = .int .i64 i ∧ f 7 = .slice X' (seg xs 0 (cs.getD 0 0) ++ rep i (seg xs (cs.getD 0 0) (cs.getD 1 0))).length c' ∧ Gr w w' ∧ Own 3 w' w.heap.size X' c' (seg xs 0 (cs.getD 0 0) ++ rep i (seg xs (cs.getD 0 0) (cs.getD 1 0))), fun f _ => m - (intOf (f 8)).toNat,
    ⟨0, X1, d1, Nat.zero_le _, rfl, by simp [rep]; rfl, g1, by simpa [rep] using o1⟩, ?_⟩
  rintro f w2 hag ⟨i, X2, d2, him, h8, h7, g2, o2⟩
  have f0 : f 0 = .slice X xs.length c := hag 0 (by decide)
  have f1 : f 1 = .slice Y cs.length d := hag 1 (by decide)
  have f2 : f 2 = .int .i64 m := hag 2 (by decide)
  simp only [f0, f1, f2, h7, h8, go_sem, Nat.reduceEqDiff]
  by_cases hlt : i < m
  · have hlt' : (i : Int) < m := by omega
    have gd := zf_ g2 (zcb_ w2)
    simp only [hlt', decide_true, go_sem, Nat.reduceEqDiff]
    rw [zvd_ hy.ptr (by omega), ld3 ((hy.gr gd).cell 0 (by omega)), zmf_ hy.ptr (by omega), ld3 ((hy.gr gd).cell 1 (by omega)), sl27 c0 c1 (by omega)]
    have hlen : (seg xs 0 (cs.getD 0 0) ++ rep i (seg xs (cs.getD 0 0) (cs.getD 1 0))).length ≤ 100 + 4 * 100 := by
      rw [List.length_append, zcf_]
      have := Nat.mul_le_mul (show i ≤ 4 by omega) (show (seg xs (cs.getD 0 0) (cs.getD 1 0)).length ≤ 100 by omega)
      omega
    refine apI (o2.gr (zcb_ w2)) (p1.gr gd) rfl (by rw [l1]) (by omega) gd.size fun X3 d3 w3 o3 g3 => ?_
    rw [zj_ (by omega) (by omega)]
    have g3' := zxf_ gd g3 fun q hq => (Row.ge o2 hq).1
    rw [List.append_assoc, ← zcd_] at o3
    refine ⟨⟨i + 1, X3, d3, hlt, rfl, by rw [List.append_assoc, ← zcd_], g3', o3⟩, ?_⟩
    simp only [intOf]
    omega
  · have him' : i = m := by omega
    subst him'
    simp only [show ¬ (i : Int) < i from by omega, decide_false, go_sem, Nat.reduceEqDiff]
    have gd := zf_ g2 (zcb_ w2)
    rw [zmf_ hy.ptr (by omega), ld3 ((hy.gr gd).cell 1 (by omega)), zxe_ hy.ptr (by omega), ld3 ((hy.gr gd).cell 2 (by omega)), sl27 (by omega) c2 (by omega)]
    have hlen : (seg xs 0 (cs.getD 0 0) ++ rep i (seg xs (cs.getD 0 0) (cs.getD 1 0))).length ≤ 100 + 4 * 100 := by
      rw [List.length_append, zcf_]
      have := Nat.mul_le_mul (show i ≤ 4 by omega) (show (seg xs (cs.getD 0 0) (cs.getD 1 0)).length ≤ 100 by omega)
      omega
    refine apI (o2.gr (zcb_ w2)) (p2.gr gd) rfl (by rw [l2]) (by omega) gd.size fun X3 d3 w3 o3 g3 => ?_
    have g3' := zxf_ gd g3 fun q hq => (Row.ge o2 hq).1
    have hlen3 : (seg xs 0 (cs.getD 0 0) ++ rep i (seg xs (cs.getD 0 0) (cs.getD 1 0)) ++ seg xs (cs.getD 1 0) (cs.getD 2 0)).length ≤ 600 := by
      rw [List.length_append]
      omega
    refine ⟨fun f w' => ∃ (j : Nat) (X' : Option Addr) (c' : Nat), j ≤ i ∧ f 9 = .int .i64 j ∧ f 7 = .slice X' (seg xs 0 (cs.getD 0 0) ++ rep i (seg xs (cs.getD 0 0) (cs.getD 1 0)) ++ seg xs (cs.getD 1 0) (cs.getD 2 0) ++ rep j (seg xs (cs.getD 2 0) (cs.getD 3 0))).length c' ∧ Gr w w' ∧ Own 3 w' w.heap.size X' c' (seg xs 0 (cs.getD 0 0) ++ rep i (seg xs (cs.getD 0 0) (cs.getD 1 0)) ++ seg xs (cs.getD 1 0) (cs.getD 2 0) ++ rep j (seg xs (cs.getD 2 0) (cs.getD 3 0))), fun f _ => i - (intOf (f 9)).toNat,
      ⟨0, X3, d3, Nat.zero_le _, rfl, by simp [rep]; rfl, g3', by simpa [rep] using o3⟩, ?_⟩
    rintro f' w4 hag' ⟨j, X4, d4, hji, h9, h7', g4, o4⟩
    have f0' : f' 0 = .slice X xs.length c := (hag' 0 (by decide)).trans f0
    have f1' : f' 1 = .slice Y cs.length d := (hag' 1 (by decide)).trans f1
    have f2' : f' 2 = .int .i64 i := (hag' 2 (by decide)).trans f2
    simp only [f0', f1', f2', h7', h9, go_sem, Nat.reduceEqDiff]
    have hlen4 : (seg xs 0 (cs.getD 0 0) ++ rep i (seg xs (cs.getD 0 0) (cs.getD 1 0)) ++ seg xs (cs.getD 1 0) (cs.getD 2 0) ++ rep j (seg xs (cs.getD 2 0) (cs.getD 3 0))).length ≤ 600 + 4 * 100 := by
      rw [List.length_append, zcf_ j]
      have := Nat.mul_le_mul (show j ≤ 4 by omega) (show (seg xs (cs.getD 2 0) (cs.getD 3 0)).length ≤ 100 by omega)
      omega
    by_cases hlt2 : j < i
    · have hlt' : (j : Int) < i := by omega
      have gd4 := zf_ g4 (zcb_ w4)
      simp only [hlt', decide_true, go_sem, Nat.reduceEqDiff]
      rw [zxe_ hy.ptr (by omega), ld3 ((hy.gr gd4).cell 2 (by omega)), zye_ hy.ptr (by omega), ld3 ((hy.gr gd4).cell 3 (by omega)), sl27 (by omega) c3 (by omega)]
      refine apI (o4.gr (zcb_ w4)) (p3.gr gd4) rfl (by rw [l3]) (by omega) gd4.size fun X5 d5 w5 o5 g5 => ?_
      rw [zj_ (by omega) (by omega)]
      have g5' := zxf_ gd4 g5 fun q hq => (Row.ge o4 hq).1
      rw [List.append_assoc, ← zcd_] at o5
      refine ⟨⟨j + 1, X5, d5, hlt2, rfl, by rw [List.append_assoc, ← zcd_], g5', o5⟩, ?_⟩
      simp only [intOf]
      omega
    · have hji' : j = i := by omega
      subst hji'
      simp only [show ¬ (j : Int) < j from by omega, decide_false, go_sem, Nat.reduceEqDiff]
      rw [zye_ hy.ptr (by omega), ld3 ((hy.gr g4).cell 3 (by omega)), sll27 (by omega) c4]
      refine apI o4 (p4.gr g4) rfl (by rw [l4]; simp) (by omega) g4.size fun X5 d5 w5 o5 g5 => ?_
      exact hk X5 d5 w5 (zxf_ g4 g5 fun q hq => (Row.ge o4 hq).1) o5
end Go.Proofs.Ytegcjkhebecgbaa

namespace Go.Sh
open Go
theorem all4 {cs : List Int} {n : Int} (h4 : cs.length = 4) : allB cs 0 n = true ↔ ∀ j, j < 4 → 0 ≤ cs.getD j 0 ∧ cs.getD j 0 ≤ n := by
  constructor
  · intro h j hj
    have := List.all_eq_true.1 h _ (zth_ (xs := cs) (i := j) (by omega))
    simpa [inB] using this
  · intro h
    refine all_of fun j hj => ?_
    have := h j (by omega)
    simp [inB]
    simpa using this
def zbc_ (xs cs : List Int) (many : Int) : Option (List Int) :=
  if xs.length ≤ 60 ∧ allB xs 0 1000000 = true ∧ Cuts cs xs.length ∧ inB many 0 4 = true then
    (if (zwb_ xs cs many.toNat).length ≤ 60 then some (zwb_ xs cs many.toNat) else none)
  else none
end Go.Sh
namespace Go.Proofs.Ytegcjkhebecgbaa
open Go Go.Sh Go.RowKit

theorem zku_ {w : World} {Y : Option Addr} {d n : Nat} {cs : List Int} (hy : Ints w Y cs) {k : Value → World → Prop} (hk : ∀ w', Gr w w' → k (.bool (decide (Cuts cs n))) w') :
    CallK Try.prog 231 [.slice Y cs.length d, .int .i64 n] k w := by
  refine enter231 ?_
  unfold S231
  simp only [go_sem, Nat.reduceEqDiff]
  by_cases h4 : cs.length = 4
  · simp only [h4, decide_true, Bool.not_true, go_sem, Nat.reduceEqDiff, show ((4 : Nat) : Int) = 4 from rfl]
    rw [← h4]
    refine l1All_c hy fun w1 g1 => ?_
    simp only [go_sem, Nat.reduceEqDiff]
    cases hb : allB cs 0 n
    · simp only [Bool.not_false, go_sem, Nat.reduceEqDiff]
      have := hk w1 g1
      rwa [decide_eq_false] at this
      intro hc
      have : allB cs 0 n = true := (all4 h4).2 fun j hj => by
        obtain ⟨_, c0, c1, c2, c3, c4⟩ := hc
        rcases (show j = 0 ∨ j = 1 ∨ j = 2 ∨ j = 3 by omega) with rfl | rfl | rfl | rfl <;> omega
      rw [this] at hb
      cases hb
    · simp only [Bool.not_true, go_sem, Nat.reduceEqDiff]
      have ha := (all4 h4).1 hb
      have gd := zf_ g1 (zcb_ w1)
      have hy' := hy.gr gd
      rw [zvd_ hy.ptr (by omega), ld3 (hy'.cell 0 (by omega)), zmf_ hy.ptr (by omega), ld3 (hy'.cell 1 (by omega))]
      simp only [go_sem, Nat.reduceEqDiff]
      have hk' := hk _ gd
      by_cases h01 : cs.getD 0 0 ≤ cs.getD 1 0
      · simp only [h01, decide_true, go_sem, Nat.reduceEqDiff]
        rw [zmf_ hy.ptr (by omega), ld3 (hy'.cell 1 (by omega)), zxe_ hy.ptr (by omega), ld3 (hy'.cell 2 (by omega))]
        simp only [go_sem, Nat.reduceEqDiff]
        by_cases h12 : cs.getD 1 0 ≤ cs.getD 2 0
        · simp only [h12, decide_true, go_sem, Nat.reduceEqDiff]
          rw [zxe_ hy.ptr (by omega), ld3 (hy'.cell 2 (by omega)), zye_ hy.ptr (by omega), ld3 (hy'.cell 3 (by omega))]
          simp only [go_sem, Nat.reduceEqDiff]
          have h0 := ha 0 (by omega)
          have h3 := ha 3 (by omega)
          rwa [show decide (Cuts cs n) = decide (cs.getD 2 0 ≤ cs.getD 3 0) from decide_eq_decide.2 ⟨fun h => h.h23, fun h => ⟨h4, h0.1, h01, h12, h, h3.2⟩⟩] at hk'
        · simp only [h12, decide_false, go_sem, Nat.reduceEqDiff]
          rwa [decide_eq_false (fun h => h12 h.h12)] at hk'
      · simp only [h01, decide_false, go_sem, Nat.reduceEqDiff]
        rwa [decide_eq_false (fun h => h01 h.h01)] at hk'
  · have h4' : ¬ ((cs.length : Int) = 4) := by omega
    simp only [h4', decide_false, Bool.not_false, go_sem, Nat.reduceEqDiff]
    have := hk w (Gr.refl w)
    rwa [decide_eq_false (fun h => h4 h.len)] at this

theorem zvh_ {w : World} {X Y : Option Addr} {c d : Nat} {xs cs : List Int} {many : Int} (hx : Ints w X xs) (hc : xs.length ≤ c) (hy : Ints w Y cs) {k : Value → World → Prop}
    (hk : ∀ X' c' w', Gr w w' → match zbc_ xs cs many with
      | some l => Own 3 w' w.heap.size X' c' l → k (.tuple #[.slice X' l.length c', .bool true]) w'
      | none => k (.tuple #[.slice none 0 0, .bool false]) w') :
    CallK Try.prog 117 [.slice X xs.length c, .slice Y cs.length d, .int .i64 many] k w := by
  refine enter117 ?_
  unfold S117
  simp only [go_sem, Nat.reduceEqDiff]
  by_cases h60 : (60 : Int) < xs.length
  · simp only [h60, decide_true, go_sem, Nat.reduceEqDiff]
    have := hk none 0 w (Gr.refl w)
    rwa [show zbc_ xs cs many = none from if_neg (fun h => by omega)] at this
  simp only [h60, decide_false, go_sem, Nat.reduceEqDiff]
  refine l1All_c hx fun w1 g1 => ?_
  simp only [go_sem, Nat.reduceEqDiff]
  cases ha : allB xs 0 1000000
  · simp only [Bool.not_false, go_sem, Nat.reduceEqDiff]
    have := hk none 0 w1 g1
    rwa [show zbc_ xs cs many = none from if_neg (fun h => by rw [ha] at h; exact absurd h.2.1 (by decide))] at this
  simp only [Bool.not_true, go_sem, Nat.reduceEqDiff]
  refine zku_ (hy.gr g1) fun w2 g2 => ?_
  have g2' := zf_ g1 g2
  simp only [go_sem, Nat.reduceEqDiff]
  by_cases hcs : Cuts cs xs.length
  rotate_left
  · simp only [hcs, decide_false, Bool.not_false, go_sem, Nat.reduceEqDiff]
    have := hk none 0 w2 g2'
    rwa [show zbc_ xs cs many = none from if_neg (fun h => hcs h.2.2.1)] at this
  simp only [hcs, decide_true, Bool.not_true, go_sem, Nat.reduceEqDiff]
  refine zaf_ ?_
  simp only [go_sem, Nat.reduceEqDiff]
  cases hm : inB many 0 4
  · simp only [Bool.not_false, go_sem, Nat.reduceEqDiff]
    have := hk none 0 w2 g2'
    rwa [show zbc_ xs cs many = none from if_neg (fun h => by rw [hm] at h; exact absurd h.2.2.2 (by decide))] at this
  simp only [Bool.not_true, go_sem, Nat.reduceEqDiff]
  have hm' : 0 ≤ many ∧ many ≤ 4 := by simpa [inB] using hm
  obtain ⟨m, rfl⟩ := Int.eq_ofNat_of_zero_le hm'.1
  refine zju_ (hx.gr g2') hc (hy.gr g2') hcs (by omega) (by omega) fun X' c' w3 g3 o3 => ?_
  have e : zbc_ xs cs m = if (zwb_ xs cs m).length ≤ 60 then some (zwb_ xs cs m) else none := if_pos ⟨by omega, ha, hcs, hm⟩
  have hk' := hk X' c' w3 (zf_ g2' g3)
  rw [e] at hk'
  simp only [go_sem, Nat.reduceEqDiff]
  by_cases hl : (zwb_ xs cs m).length ≤ 60
  · simp only [show ¬ (60 : Int) < (zwb_ xs cs m).length by omega, decide_false, go_sem, Nat.reduceEqDiff]
    rw [if_pos hl] at hk'
    exact hk' (Row.mono o3 g2'.size)
  · simp only [show (60 : Int) < (zwb_ xs cs m).length by omega, decide_true, go_sem, Nat.reduceEqDiff]
    rw [if_neg hl] at hk'
    exact hk'

def Pred (t : Nat) (fv : Value) (p : Int → Bool) (w : World) : Prop := ∀ w1, Gr w w1 → ∀ (x : Int) (k : Value → World → Prop), (∀ w2, Gr w1 w2 → k (.bool (p x)) w2) → Do Try.prog (zif_ fv [.int .i64 x] t) k w1
theorem indexFunc_c {w : World} {X : Option Addr} {c : Nat} {xs : List Int} {fv : Value} {p : Int → Bool} (hx : Ints w X xs) (hp : Pred 4 fv p w) {k : Value → World → Prop}
    (hk : ∀ (r : Int) w', Gr w w' → decide (0 ≤ r) = xs.any p → (0 ≤ r → r < xs.length ∧ p (xs.getD r.toNat 0) = true ∧ ∀ j : Nat, j < r → p (xs.getD j 0) = false) → k (.int .i64 r) w') :
    CallK Try.prog 177 [.slice X xs.length c, fv] k w := by
  refine enter177 ?_
  unfold S177
  simp only [go_sem, Nat.reduceEqDiff]
  refine ⟨fun f w' => ∃ i : Nat, i ≤ xs.length ∧ f 8 = .int .i64 i ∧ Gr w w' ∧ ∀ j, j < i → p (xs.getD j 0) = false, fun f _ => xs.length - (intOf (f 8)).toNat, ⟨0, Nat.zero_le _, rfl, Gr.refl w, fun j hj => absurd hj (Nat.not_lt_zero j)⟩, ?_⟩
  rintro f w1 hag ⟨i, hi, h8, hg, hpre⟩
  have f0 : f 0 = .slice X xs.length c := hag 0 (by decide)
  have f1 : f 1 = fv := hag 1 (by decide)
  have f7 : f 7 = .int .i64 xs.length := hag 7 (by decide)
  simp only [f0, f1, f7, h8, go_sem, Nat.reduceEqDiff]
  by_cases hlt : i < xs.length
  · have hlt' : (i : Int) < xs.length := by omega
    have := hx.le
    simp only [hlt', decide_true, go_sem, Nat.reduceEqDiff]
    rw [zub_ hx.ptr hlt, ld3 ((hx.gr hg).cell i hlt)]
    refine hp w1 hg _ _ fun w2 g2 => ?_
    have g2' := zf_ hg g2
    cases hb : p (xs.getD i 0)
    · simp only [go_sem, Nat.reduceEqDiff]
      rw [zj_ (by omega) (by omega)]
      refine ⟨⟨i + 1, hlt, rfl, g2', fun j hj => ?_⟩, ?_⟩
      · rcases Nat.lt_succ_iff_lt_or_eq.1 hj with h | rfl
        · exact hpre j h
        · exact hb
      · simp only [intOf]
        omega
    · simp only [go_sem, Nat.reduceEqDiff]
      refine hk i w2 g2' ?_ fun _ => ⟨hlt', hb, fun j hj => hpre j (by omega)⟩
      rw [decide_eq_true (by omega), eq_comm, List.any_eq_true]
      exact ⟨_, zth_ hlt, hb⟩
  · simp only [show ¬ (i : Int) < xs.length from by omega, decide_false, go_sem, Nat.reduceEqDiff]
    refine hk (-1) w1 hg ?_ fun h => absurd h (by decide)
    rw [decide_eq_false (by decide), eq_comm, List.any_eq_false]
    intro x hx'
    obtain ⟨j, hj, rfl⟩ := List.getElem_of_mem hx'
    have := hpre j (by omega)
    rw [List.getD_eq_getElem?_getD, List.getElem?_eq_getElem hj] at this
    simpa using this
theorem zwh_ {w : World} {X : Option Addr} {c : Nat} {xs : List Int} {fv : Value} {p : Int → Bool} (hx : Ints w X xs) (hp : Pred 4 fv p w) {k : Value → World → Prop}
    (hk : ∀ w', Gr w w' → k (.bool (xs.any p)) w') : CallK Try.prog 250 [.slice X xs.length c, fv] k w := by
  refine enter250 ?_
  unfold S250
  refine indexFunc_c hx hp fun r w' g h _ => ?_
  simp only [go_sem, Nat.reduceEqDiff]
  rw [h]
  exact hk w' g
theorem pumpWord1_c {x : Int} {w : World} {k : Value → World → Prop} (hk : k (.bool (!inB x 0 1000000)) w) : CallK Try.prog 296 [.int .i64 x] k w := by
  refine enter296 ?_
  unfold S296
  refine in_c ?_
  simp only [go_sem, Nat.reduceEqDiff]
  exact hk
end Go.Proofs.Ytegcjkhebecgbaa

namespace Go.Sh
open Go
def symB (nons toks s : Int) : Bool := inB s (-toks) (nons - 1)
def zde_ (nons toks : Int) (rs : List RuleL) (i : Nat) : Bool :=
  inB (rul rs i).1 0 (nons - 1) && decide ((rul rs i).2.length ≤ 4) && (rul rs i).2.all (symB nons toks) && !(rs.take i).any fun q => decide (rul rs i = q)
def zy_ (g : Gram) : Bool := inB g.nons 1 6 && inB g.toks 1 4 && decide (g.rules.length ≤ 16) && (List.range g.rules.length).all (zde_ g.nons g.toks g.rules)
theorem zch_ {n : Nat} {p : Nat → Bool} (h : ∀ j, j < n → p j = true) : (List.range n).all p = true := by
  rw [List.all_eq_true]
  intro x hx
  exact h x (List.mem_range.1 hx)
theorem zmu_ {n i : Nat} {p : Nat → Bool} (hi : i < n) (h : p i = false) : (List.range n).all p = false := by
  rw [List.all_eq_false]
  exact ⟨i, List.mem_range.2 hi, by rw [h]; decide⟩
theorem zjr_ {rs : List RuleL} {p : RuleL → Bool} {i : Nat} (hi : i < rs.length) (h : p (rul rs i) = true) : rs.any p = true := by
  rw [List.any_eq_true]
  exact ⟨_, by rw [zpf_ hi]; exact List.getElem_mem hi, h⟩
theorem zpk_ {rs : List RuleL} {p : RuleL → Bool} (h : ∀ j, j < rs.length → p (rul rs j) = false) : rs.any p = false := by
  rw [List.any_eq_false]
  intro x hx
  obtain ⟨j, hj, rfl⟩ := List.getElem_of_mem hx
  have := h j hj
  rw [zpf_ hj] at this
  simp [this]
theorem sub_zero (Y : Option Addr) (c sz : Nat) : sub Y 0 c sz = Y := by
  unfold sub
  split
  · rfl
  · cases Y <;> simp [zq35]
theorem RulesF.take {F : Nat → Prop} {w : World} {X : Option Addr} {rs : List RuleL} (h : RulesF F w X rs) (i : Nat) : RulesF F w X (rs.take i) := by
  have hl : (rs.take i).length ≤ rs.length := by simp; omega
  refine ⟨by have := h.le; omega, fun hp => h.ptr (by omega), fun hp => h.foot (by omega), fun j hj => ?_⟩
  have hji : j < i := by simp at hj; omega
  rw [zjp_ hji]
  exact h.row j (by omega)
end Go.Sh
namespace Go.Proofs.Ytegcjkhebecgbaa
open Go Go.Sh Go.RowKit

theorem l1Symbol_c {F : Nat → Prop} {w : World} {v : Value} {gm : Gram} {s : Int} (hv : GramV F w v gm) (hn : inB gm.nons 1 6 = true) (ht : inB gm.toks 1 4 = true) {k : Value → World → Prop} (hk : ∀ w', Gr w w' → k (.bool (symB gm.nons gm.toks s)) w') :
    CallK Try.prog 238 [v, .int .i64 s] k w := by
  obtain ⟨Y, c, rfl, hc, hy⟩ := hv
  have hn' : 1 ≤ gm.nons ∧ gm.nons ≤ 6 := by simpa [inB] using hn
  have ht' : 1 ≤ gm.toks ∧ gm.toks ≤ 4 := by simpa [inB] using ht
  refine enter238 ?_
  unfold S238
  refine zpd_ fun b w1 g1 hb1 hB => ?_
  simp only [go_sem, Nat.reduceEqDiff]
  rw [ldB3 hB rfl]
  simp only [go_sem, Nat.reduceEqDiff]
  rw [ldB3 hB rfl]
  simp only [go_sem, Nat.reduceEqDiff]
  rw [zj_ (by omega) (by omega), zj_ (by omega) (by omega)]
  exact zaf_ (hk _ g1)
theorem l1Same_c {w : World} {X Y : Option Addr} {c d : Nat} {xs ys : List Int} (hx : Ints w X xs) (hy : Ints w Y ys) {k : Value → World → Prop} (hk : ∀ w', Gr w w' → k (.bool (decide (xs = ys))) w') :
    CallK Try.prog 300 [.slice X xs.length c, .slice Y ys.length d] k w := by
  refine enter300 ?_
  unfold S300
  simp only [go_sem, Nat.reduceEqDiff]
  by_cases hl : xs.length = ys.length
  rotate_left
  · simp only [Int.ofNat_inj, hl, decide_false, Bool.not_false, go_sem, Nat.reduceEqDiff]
    have := hk _ (Gr.refl w)
    rwa [decide_eq_false (fun e => hl (by rw [e]))] at this
  simp only [Int.ofNat_inj, hl, decide_true, Bool.not_true, go_sem, Nat.reduceEqDiff]
  rw [← hl]
  refine ⟨fun f w' => ∃ i : Nat, i ≤ xs.length ∧ f 13 = .int .i64 i ∧ Gr w w' ∧ xs.take i = ys.take i, fun f _ => xs.length - (intOf (f 13)).toNat, ⟨0, Nat.zero_le _, rfl, Gr.refl w, rfl⟩, ?_⟩
  rintro f w1 hag ⟨i, hi, h13, hg, hpre⟩
  have h0 : f 0 = .slice X xs.length c := hag 0 (by decide)
  have h1 : f 1 = .slice Y xs.length d := hag 1 (by decide)
  have h12 : f 12 = .int .i64 xs.length := hag 12 (by decide)
  simp only [h0, h1, h12, h13, go_sem, Nat.reduceEqDiff]
  by_cases hlt : i < xs.length
  · have hlt' : (i : Int) < xs.length := by omega
    have := hx.le
    simp only [hlt', decide_true, go_sem, Nat.reduceEqDiff]
    rw [zub_ hx.ptr hlt, ld3 ((hx.gr (zf_ hg (zcb_ w1))).cell i hlt), zub_ (hl ▸ hy.ptr) hlt, ld3 ((hy.gr (zf_ hg (zcb_ w1))).cell i (by omega))]
    simp only [go_sem, Nat.reduceEqDiff]
    by_cases he : xs.getD i 0 = ys.getD i 0
    · simp only [he, decide_true, Bool.not_true, go_sem, Nat.reduceEqDiff]
      rw [zj_ (by omega) (by omega)]
      refine ⟨⟨i + 1, hlt, rfl, zf_ hg (zcb_ w1), ?_⟩, ?_⟩
      · rw [zah_ hlt, zah_ (by omega), hpre, he]
      · simp only [intOf]
        omega
    · simp only [he, decide_false, Bool.not_false, go_sem, Nat.reduceEqDiff]
      have := hk _ (zf_ hg (zcb_ w1))
      rwa [decide_eq_false (fun e => he (by rw [e]))] at this
  · simp only [show ¬ (i : Int) < xs.length from by omega, decide_false, go_sem, Nat.reduceEqDiff]
    have := hk _ hg
    rwa [decide_eq_true] at this
    rwa [List.take_of_length_le (by omega), List.take_of_length_le (by omega)] at hpre
theorem zrk_ {F E : Nat → Prop} {w : World} {v u : Value} {r q : RuleL} (hv : RuleV F w v r) (hu : RuleV E w u q) {k : Value → World → Prop} (hk : ∀ w', Gr w w' → k (.bool (decide (r = q))) w') :
    CallK Try.prog 239 [v, u] k w := by
  obtain ⟨Y, c, rfl, hc, hy⟩ := hv
  obtain ⟨Z, d, rfl, hd, hz⟩ := hu
  refine enter239 ?_
  unfold S239
  refine zpd_ fun b w1 g1 hb1 hb => ?_
  refine zpd_ fun b' w2 g2 hb2 hb' => ?_
  have hb := hb.gr g2
  have g := zf_ g1 g2
  simp only [go_sem, Nat.reduceEqDiff]
  rw [ldB3 hb rfl, ldB3 hb' rfl]
  simp only [go_sem, Nat.reduceEqDiff]
  by_cases h : r.1 = q.1
  · simp only [h, decide_true, go_sem, Nat.reduceEqDiff]
    rw [zrd_ hb rfl]
    rw [zrd_ hb' rfl]
    refine l1Same_c (hy.is.gr g) (hz.is.gr g) fun w3 g3 => ?_
    have := hk w3 (zf_ g g3)
    by_cases h2 : r.2 = q.2
    · simp only [h2, decide_true, go_sem, Nat.reduceEqDiff]
      rwa [decide_eq_true (Prod.ext h h2)] at this
    · simp only [h2, decide_false, go_sem, Nat.reduceEqDiff]
      rwa [decide_eq_false (fun e => h2 (by rw [e]))] at this
  · simp only [h, decide_false, go_sem, Nat.reduceEqDiff]
    have := hk w2 g
    rwa [decide_eq_false (fun e => h (by rw [e]))] at this
theorem zji_ {F : Nat → Prop} {w : World} {v : Value} {gm : Gram} (hv : GramV F w v gm) {k : Value → World → Prop} (hk : ∀ w', Gr w w' → k (.bool (zy_ gm)) w') :
    CallK Try.prog 127 [v] k w := by
  have hv0 := hv
  obtain ⟨Y, c, rfl, hc, hy⟩ := hv
  refine enter127 ?_
  unfold S127
  refine zpd_ fun b w1 g1 hb1 hB => ?_
  simp only [go_sem, Nat.reduceEqDiff]
  rw [ldB3 hB rfl]
  refine zaf_ ?_
  cases hn : inB gm.nons 1 6
  · simp only [Bool.not_false, go_sem, Nat.reduceEqDiff]
    have := hk _ g1
    rwa [show zy_ gm = false from by simp [zy_, hn]] at this
  simp only [Bool.not_true, go_sem, Nat.reduceEqDiff]
  rw [ldB3 hB rfl]
  refine zaf_ ?_
  cases ht : inB gm.toks 1 4
  · simp only [Bool.not_false, go_sem, Nat.reduceEqDiff]
    have := hk _ g1
    rwa [show zy_ gm = false from by simp [zy_, ht]] at this
  simp only [Bool.not_true, go_sem, Nat.reduceEqDiff]
  rw [zuf_ hB rfl]
  simp only [go_sem, Nat.reduceEqDiff]
  by_cases hl : gm.rules.length ≤ 16
  rotate_left
  · simp only [show (16 : Int) < gm.rules.length from by omega, decide_true, go_sem, Nat.reduceEqDiff]
    have := hk _ g1
    rwa [show zy_ gm = false from by simp [zy_, hl]] at this
  simp only [show ¬ (16 : Int) < gm.rules.length from by omega, decide_false, go_sem, Nat.reduceEqDiff]
  rw [zuf_ hB rfl]
  simp only [go_sem, Nat.reduceEqDiff]
  have hn' : 1 ≤ gm.nons ∧ gm.nons ≤ 6 := by simpa [inB] using hn
  have ht' : 1 ≤ gm.toks ∧ gm.toks ≤ 4 := by simpa [inB] using ht
  refine ⟨fun f w' => ∃ i : Nat, i ≤ gm.rules.length ∧ f 28 = .int .i64 i ∧ Gr w1 w' ∧ ∀ j, j < i → zde_ gm.nons gm.toks gm.rules j = true, fun f _ => gm.rules.length - (intOf (f 28)).toNat, ⟨0, Nat.zero_le _, rfl, Gr.refl w1, fun j hj => absurd hj (Nat.not_lt_zero j)⟩, ?_⟩
  rintro f w2 hag ⟨i, hi, h28, g2, hpre⟩
  have f1 : f 1 = .pointer (some ⟨b, 0, none⟩) := hag 1 (by decide)
  have f26 : f 26 = .slice Y gm.rules.length c := hag 26 (by decide)
  have f27 : f 27 = .int .i64 gm.rules.length := hag 27 (by decide)
  simp only [f1, f26, f27, h28, go_sem, Nat.reduceEqDiff]
  by_cases hlt : i < gm.rules.length
  · have hlt' : (i : Int) < gm.rules.length := by omega
    simp only [hlt', decide_true, go_sem, Nat.reduceEqDiff]
    have g := zf_ g1 g2
    rw [zwe_ hy.ptr hlt]
    refine zim_ zbe_ sz33 (hy.gr g) hlt fun v hv => ?_
    obtain ⟨Z, d, rfl, hd, hz⟩ := hv
    refine zag_ zhd_ fun b3 w3 g3 hb3 h3 => ?_
    have n3 := (hB.gr g2).ne hb3
    refine zwi_ sz33 rfl (by intro u hu; simp [Value.cells] at hu; rcases hu with rfl | rfl <;> rfl) h3 (by simp [Value.cells]) fun w4 g4 s4 h4 => ?_
    have hB2 := (hB.gr (zf_ g2 g3)).put g4 n3
    have g' := zyi_ (zf_ g g3) g4 (Nat.le_trans g.size hb3)
    have k0 : zde_ gm.nons gm.toks gm.rules i = false → ∀ w', Gr w w' → k (.bool false) w' := fun h w' gw => by
      have := hk w' gw
      rwa [show zy_ gm = false from by simp only [zy_, zmu_ hlt h, Bool.and_false]] at this
    simp only [go_sem, Nat.reduceEqDiff]
    rw [ldB3 h4 rfl, ldB3 hB2 rfl]
    simp only [go_sem, Nat.reduceEqDiff]
    rw [zj_ (by omega) (by omega)]
    refine zaf_ ?_
    cases hr : inB (rul gm.rules i).1 0 (gm.nons - 1)
    · simp only [Bool.not_false, go_sem, Nat.reduceEqDiff]
      exact k0 (by simp [zde_, hr]) _ g'
    simp only [Bool.not_true, go_sem, Nat.reduceEqDiff]
    rw [zrd_ h4 rfl]
    simp only [go_sem, Nat.reduceEqDiff]
    by_cases h5 : (rul gm.rules i).2.length ≤ 4
    rotate_left
    · simp only [show (4 : Int) < (rul gm.rules i).2.length from by omega, decide_true, go_sem, Nat.reduceEqDiff]
      exact k0 (by simp [zde_, h5]) _ g'
    simp only [show ¬ (4 : Int) < (rul gm.rules i).2.length from by omega, decide_false, go_sem, Nat.reduceEqDiff]
    rw [zrd_ h4 rfl]
    simp only [go_sem, Nat.reduceEqDiff]
    refine ⟨fun f' w' => ∃ j : Nat, j ≤ (rul gm.rules i).2.length ∧ f' 49 = .int .i64 j ∧ Gr w4 w' ∧ ∀ l, l < j → symB gm.nons gm.toks ((rul gm.rules i).2.getD l 0) = true, fun f' _ => (rul gm.rules i).2.length - (intOf (f' 49)).toNat, ⟨0, Nat.zero_le _, rfl, Gr.refl w4, fun j hj => absurd hj (Nat.not_lt_zero j)⟩, ?_⟩
    rintro f' w5 hag' ⟨j, hj, h49, g5, hpre'⟩
    have e1 : f' 1 = .pointer (some ⟨b, 0, none⟩) := (hag' 1 (by decide)).trans f1
    have e3 : f' 3 = .int .i64 i := hag' 3 (by decide)
    have e4 : f' 4 = .pointer (some ⟨b3, 0, none⟩) := hag' 4 (by decide)
    have e28 : f' 28 = .int .i64 i := (hag' 28 (by decide)).trans h28
    have e47 : f' 47 = .slice Z (rul gm.rules i).2.length d := hag' 47 (by decide)
    have e48 : f' 48 = .int .i64 (rul gm.rules i).2.length := hag' 48 (by decide)
    have gw5 := zf_ g' g5
    have gw45 : Gr w2 w5 := zf_ (zyi_ g3 g4 hb3) g5
    simp only [e1, e47, e48, h49, go_sem, Nat.reduceEqDiff]
    by_cases hlt2 : j < (rul gm.rules i).2.length
    · have hlt2' : (j : Int) < (rul gm.rules i).2.length := by omega
      simp only [hlt2', decide_true, go_sem, Nat.reduceEqDiff]
      rw [zub_ hz.is.ptr hlt2, ld3 ((hz.is.gr gw45).cell j hlt2), zv_ zdb_ sz26 rfl (hB2.gr g5)]
      refine l1Symbol_c (gm := gm) ⟨Y, c, rfl, hc, hy.gr gw5⟩ hn ht fun w6 g6 => ?_
      simp only [go_sem, Nat.reduceEqDiff]
      cases hs : symB gm.nons gm.toks ((rul gm.rules i).2.getD j 0)
      · simp only [Bool.not_false, go_sem, Nat.reduceEqDiff]
        exact k0 (by simp only [zde_, zhr_ hlt2 hs, Bool.and_false, Bool.false_and]) _ (zf_ gw5 g6)
      · simp only [Bool.not_true, go_sem, Nat.reduceEqDiff]
        rw [zj_ (by omega) (by omega)]
        refine ⟨⟨j + 1, hlt2, rfl, zf_ g5 g6, fun l hl => ?_⟩, ?_⟩
        · rcases Nat.lt_succ_iff_lt_or_eq.1 hl with h | rfl
          · exact hpre' l h
          · exact hs
        · simp only [intOf]
          omega
    simp only [show ¬ (j : Int) < (rul gm.rules i).2.length from by omega, decide_false, go_sem, Nat.reduceEqDiff]
    have hall : (rul gm.rules i).2.all (symB gm.nons gm.toks) = true := all_of fun l hl => hpre' l (by omega)
    simp only [e1, e3, go_sem, Nat.reduceEqDiff]
    rw [zuf_ (hB2.gr g5) rfl]
    rw [slh24 (by omega) (by omega), sub_zero]
    simp only [Int.toNat_natCast, go_sem, Nat.reduceEqDiff]
    have hti : (gm.rules.take i).length = i := by simp; omega
    have hyt : RulesF F w5 Y (gm.rules.take i) := (hy.gr gw5).take i
    refine ⟨fun f' w' => ∃ j : Nat, j ≤ i ∧ f' 63 = .int .i64 j ∧ Gr w5 w' ∧ ∀ l, l < j → decide (rul gm.rules i = rul gm.rules l) = false, fun f' _ => i - (intOf (f' 63)).toNat, ⟨0, Nat.zero_le _, rfl, Gr.refl w5, fun j hj => absurd hj (Nat.not_lt_zero j)⟩, ?_⟩
    rintro f2 w6 hag2 ⟨m, hm, h63, g6, hpre2⟩
    have d4 : f2 4 = .pointer (some ⟨b3, 0, none⟩) := (hag2 4 (by decide)).trans e4
    have d28 : f2 28 = .int .i64 i := (hag2 28 (by decide)).trans e28
    have d61 : f2 61 = .slice Y i c := hag2 61 (by decide)
    have d62 : f2 62 = .int .i64 i := hag2 62 (by decide)
    have gw6 := zf_ gw5 g6
    simp only [d4, d28, d61, d62, h63, go_sem, Nat.reduceEqDiff]
    by_cases hlt3 : m < i
    · have hlt3' : (m : Int) < i := by omega
      simp only [hlt3', decide_true, go_sem, Nat.reduceEqDiff]
      rw [zwe_ (fun _ => hy.ptr (by omega)) hlt3]
      refine zim_ zbe_ sz33 (hy.gr gw6) (show m < gm.rules.length by omega) fun v hv => ?_
      obtain ⟨Z', d', rfl, hd', hz'⟩ := hv
      refine zag_ zhd_ fun b7 w7 g7 hb7 h7 => ?_
      have h46 := (h4.gr (zf_ g5 g6))
      have n7 := h46.ne hb7
      have h47 := h46.gr g7
      refine zwi_ sz33 rfl (by intro u hu; simp [Value.cells] at hu; rcases hu with rfl | rfl <;> rfl) h7 (by simp [Value.cells]) fun w8 g8 s8 h8 => ?_
      have h48 := h47.put g8 n7
      have gw8 := zyi_ (zf_ gw6 g7) g8 (Nat.le_trans gw6.size hb7)
      have g58 := zyi_ (zf_ g6 g7) g8 (Nat.le_trans g6.size hb7)
      rw [zv_ zbe_ sz33 rfl h48, zv_ zbe_ sz33 rfl h8]
      refine zrk_ (r := rul gm.rules i) (q := rul gm.rules m) (F := F) (E := F) ⟨Z, d, rfl, hd, hz.gr (zf_ gw45 g58)⟩ ⟨Z', d', rfl, hd', hz'.gr (zyi_ g7 g8 hb7)⟩ fun w9 g9 => ?_
      by_cases he : rul gm.rules i = rul gm.rules m
      · simp only [he, decide_true, go_sem, Nat.reduceEqDiff]
        refine k0 ?_ _ (zf_ gw8 g9)
        have : (gm.rules.take i).any (fun q => decide (rul gm.rules i = q)) = true := zjr_ (i := m) (by omega) (by rw [zjp_ hlt3]; exact decide_eq_true he)
        simp only [zde_, this, Bool.not_true, Bool.and_false]
      · simp only [he, decide_false, go_sem, Nat.reduceEqDiff]
        rw [zj_ (by omega) (by omega)]
        refine ⟨⟨m + 1, hlt3, rfl, zf_ g58 g9, fun l hl => ?_⟩, ?_⟩
        · rcases Nat.lt_succ_iff_lt_or_eq.1 hl with h | rfl
          · exact hpre2 l h
          · exact decide_eq_false he
        · simp only [intOf]
          omega
    · simp only [show ¬ (m : Int) < i from by omega, decide_false, go_sem, Nat.reduceEqDiff]
      rw [zj_ (by omega) (by omega)]
      refine ⟨⟨i + 1, hlt, rfl, zf_ (zf_ g2 gw45) g6, fun l hl => ?_⟩, ?_⟩
      · rcases Nat.lt_succ_iff_lt_or_eq.1 hl with h | rfl
        · exact hpre l h
        · have : (gm.rules.take l).any (fun q => decide (rul gm.rules l = q)) = false := zpk_ fun m' hm' => by
            rw [zjp_ (by omega)]
            exact hpre2 m' (by omega)
          simp only [zde_, hr, h5, hall, this, decide_true, Bool.not_false, Bool.and_self]
      · simp only [intOf]
        omega
  · simp only [show ¬ (i : Int) < gm.rules.length from by omega, decide_false, go_sem, Nat.reduceEqDiff]
    have := hk _ (zf_ g1 g2)
    rwa [show zy_ gm = true from by simp only [zy_, hn, ht, hl, decide_true, Bool.true_and]; exact zch_ fun j hj => hpre j (by omega)] at this

def PredR (t : Nat) (fv : Value) (p : RuleL → Bool) (w : World) : Prop := ∀ w1, Gr w w1 → ∀ (E : Nat → Prop) (v : Value) (r : RuleL), RuleV E w1 v r → ∀ (k : Value → World → Prop), (∀ w2, Gr w1 w2 → k (.bool (p r)) w2) → Do Try.prog (zif_ fv [v] t) k w1
theorem zdw_ {F : Nat → Prop} {w : World} {X : Option Addr} {c : Nat} {rs : List RuleL} {fv : Value} {p : RuleL → Bool} (hx : RulesF F w X rs) (hp : PredR 4 fv p w) {k : Value → World → Prop}
    (hk : ∀ (r : Int) w', Gr w w' → decide (0 ≤ r) = rs.any p → k (.int .i64 r) w') :
    CallK Try.prog 305 [.slice X rs.length c, fv] k w := by
  refine enter305 ?_
  unfold S305
  simp only [go_sem, Nat.reduceEqDiff]
  refine ⟨fun f w' => ∃ i : Nat, i ≤ rs.length ∧ f 8 = .int .i64 i ∧ Gr w w' ∧ ∀ j, j < i → p (rul rs j) = false, fun f _ => rs.length - (intOf (f 8)).toNat, ⟨0, Nat.zero_le _, rfl, Gr.refl w, fun j hj => absurd hj (Nat.not_lt_zero j)⟩, ?_⟩
  rintro f w1 hag ⟨i, hi, h8, hg, hpre⟩
  have f0 : f 0 = .slice X rs.length c := hag 0 (by decide)
  have f1 : f 1 = fv := hag 1 (by decide)
  have f7 : f 7 = .int .i64 rs.length := hag 7 (by decide)
  simp only [f0, f1, f7, h8, go_sem, Nat.reduceEqDiff]
  by_cases hlt : i < rs.length
  · have hlt' : (i : Int) < rs.length := by omega
    have := hx.le
    simp only [hlt', decide_true, go_sem, Nat.reduceEqDiff]
    rw [zwe_ hx.ptr hlt]
    refine zim_ zbe_ sz33 (hx.gr hg) hlt fun v hv => ?_
    refine hp w1 hg _ _ _ hv _ fun w2 g2 => ?_
    have g2' := zf_ hg g2
    cases hb : p (rul rs i)
    · simp only [go_sem, Nat.reduceEqDiff]
      rw [zj_ (by omega) (by omega)]
      refine ⟨⟨i + 1, hlt, rfl, g2', fun j hj => ?_⟩, ?_⟩
      · rcases Nat.lt_succ_iff_lt_or_eq.1 hj with h | rfl
        · exact hpre j h
        · exact hb
      · simp only [intOf]
        omega
    · simp only [go_sem, Nat.reduceEqDiff]
      refine hk i w2 g2' ?_
      rw [decide_eq_true (by omega), zjr_ hlt hb]
  · simp only [show ¬ (i : Int) < rs.length from by omega, decide_false, go_sem, Nat.reduceEqDiff]
    refine hk (-1) w1 hg ?_
    rw [decide_eq_false (by decide), zpk_ fun j hj => hpre j (by omega)]
theorem zkr_ {F : Nat → Prop} {w : World} {X : Option Addr} {c : Nat} {rs : List RuleL} {fv : Value} {p : RuleL → Bool} (hx : RulesF F w X rs) (hp : PredR 4 fv p w) {k : Value → World → Prop}
    (hk : ∀ w', Gr w w' → k (.bool (rs.any p)) w') : CallK Try.prog 248 [.slice X rs.length c, fv] k w := by
  refine enter248 ?_
  unfold S248
  refine zdw_ hx hp fun r w' g h => ?_
  simp only [go_sem, Nat.reduceEqDiff]
  rw [h]
  exact hk w' g
theorem isSymbol_c {w : World} {s n t : Int} (hn : inB n 1 6 = true) (ht : inB t 1 4 = true) {k : Value → World → Prop} (hk : k (.bool (symB n t s)) w) : CallK Try.prog 253 [.int .i64 s, .int .i64 n, .int .i64 t] k w := by
  have hn' : 1 ≤ n ∧ n ≤ 6 := by simpa [inB] using hn
  have ht' : 1 ≤ t ∧ t ≤ 4 := by simpa [inB] using ht
  refine enter253 ?_
  unfold S253
  simp only [go_sem, Nat.reduceEqDiff]
  rw [zj_ (by omega) (by omega), zj_ (by omega) (by omega)]
  exact in_c hk
theorem zrv_ {w : World} {b b' e e' : Nat} {s n t : Int} (hB : Box w b [.int .i64 n] e) (hB' : Box w b' [.int .i64 t] e') (hn : inB n 1 6 = true) (ht : inB t 1 4 = true) {k : Value → World → Prop} (hk : k (.bool (!symB n t s)) w) :
    CallK Try.prog 252 [.int .i64 s, .pointer (some ⟨b, 0, none⟩), .pointer (some ⟨b', 0, none⟩)] k w := by
  refine enter252 ?_
  unfold S252
  rw [ldB3 hB rfl, ldB3 hB' rfl]
  refine isSymbol_c hn ht ?_
  simp only [go_sem, Nat.reduceEqDiff]
  exact hk
theorem zew_ {w : World} {X : Option Addr} {c : Nat} {xs : List Int} {n t : Int} (hx : Ints w X xs) (hn : inB n 1 6 = true) (ht : inB t 1 4 = true) {k : Value → World → Prop} (hk : ∀ w', Gr w w' → k (.bool (xs.all (symB n t))) w') :
    CallK Try.prog 154 [.slice X xs.length c, .int .i64 n, .int .i64 t] k w := by
  refine enter154 ?_
  unfold S154
  refine zpd_ fun b w1 g1 hb1 hB => ?_
  refine zpd_ fun b' w2 g2 hb2 hB' => ?_
  have hB := hB.gr g2
  simp only [go_sem, Nat.reduceEqDiff]
  have hp : Pred 4 (.func (.func 252) [].toArray [.pointer (some ⟨b, 0, none⟩), .pointer (some ⟨b', 0, none⟩)].toArray) (fun x => !symB n t x) w2 := fun w3 g3 x k hk =>
    callVc (zrv_ (hB.gr g3) (hB'.gr g3) hn ht (hk w3 (Gr.refl w3)))
  refine zwh_ (hx.gr (zf_ g1 g2)) hp fun w3 g3 => ?_
  simp only [go_sem, Nat.reduceEqDiff]
  have := hk w3 (zf_ (zf_ g1 g2) g3)
  rwa [show xs.all (symB n t) = !xs.any (fun x => !symB n t x) from by simp [List.not_any_eq_all_not]] at this
theorem ztv_ {w : World} {X Y : Option Addr} {c d : Nat} {xs ys : List Int} (hx : Ints w X xs) (hy : Ints w Y ys) {k : Value → World → Prop} (hk : ∀ w', Gr w w' → k (.bool (decide (xs = ys))) w') :
    CallK Try.prog 180 [.slice X xs.length c, .slice Y ys.length d] k w := by
  refine enter180 ?_
  unfold S180
  simp only [go_sem, Nat.reduceEqDiff]
  by_cases hl : xs.length = ys.length
  rotate_left
  · simp only [Int.ofNat_inj, hl, decide_false, Bool.not_false, go_sem, Nat.reduceEqDiff]
    have := hk _ (Gr.refl w)
    rwa [decide_eq_false (fun e => hl (by rw [e]))] at this
  simp only [Int.ofNat_inj, hl, decide_true, Bool.not_true, go_sem, Nat.reduceEqDiff]
  rw [← hl]
  refine ⟨fun f w' => ∃ i : Nat, i ≤ xs.length ∧ f 13 = .int .i64 i ∧ Gr w w' ∧ xs.take i = ys.take i, fun f _ => xs.length - (intOf (f 13)).toNat, ⟨0, Nat.zero_le _, rfl, Gr.refl w, rfl⟩, ?_⟩
  rintro f w1 hag ⟨i, hi, h13, hg, hpre⟩
  have h0 : f 0 = .slice X xs.length c := hag 0 (by decide)
  have h1 : f 1 = .slice Y xs.length d := hag 1 (by decide)
  have h12 : f 12 = .int .i64 xs.length := hag 12 (by decide)
  simp only [h0, h1, h12, h13, go_sem, Nat.reduceEqDiff]
  by_cases hlt : i < xs.length
  · have hlt' : (i : Int) < xs.length := by omega
    have := hx.le
    simp only [hlt', decide_true, go_sem, Nat.reduceEqDiff]
    rw [zub_ hx.ptr hlt, ld3 ((hx.gr (zf_ hg (zcb_ w1))).cell i hlt), zub_ (hl ▸ hy.ptr) hlt, ld3 ((hy.gr (zf_ hg (zcb_ w1))).cell i (by omega))]
    simp only [go_sem, Nat.reduceEqDiff]
    by_cases he : xs.getD i 0 = ys.getD i 0
    · simp only [he, decide_true, Bool.not_true, go_sem, Nat.reduceEqDiff]
      rw [zj_ (by omega) (by omega)]
      refine ⟨⟨i + 1, hlt, rfl, zf_ hg (zcb_ w1), ?_⟩, ?_⟩
      · rw [zah_ hlt, zah_ (by omega), hpre, he]
      · simp only [intOf]
        omega
    · simp only [he, decide_false, Bool.not_false, go_sem, Nat.reduceEqDiff]
      have := hk _ (zf_ hg (zcb_ w1))
      rwa [decide_eq_false (fun e => he (by rw [e]))] at this
  · simp only [show ¬ (i : Int) < xs.length from by omega, decide_false, go_sem, Nat.reduceEqDiff]
    have := hk _ hg
    rwa [decide_eq_true] at this
    rwa [List.take_of_length_le (by omega), List.take_of_length_le (by omega)] at hpre
theorem sameRule_c {F E : Nat → Prop} {w : World} {v u : Value} {r q : RuleL} (hv : RuleV F w v r) (hu : RuleV E w u q) {k : Value → World → Prop} (hk : ∀ w', Gr w w' → k (.bool (decide (r = q))) w') :
    CallK Try.prog 242 [v, u] k w := by
  obtain ⟨Y, c, rfl, hc, hy⟩ := hv
  obtain ⟨Z, d, rfl, hd, hz⟩ := hu
  refine enter242 ?_
  unfold S242
  refine zpd_ fun b w1 g1 hb1 hb => ?_
  refine zpd_ fun b' w2 g2 hb2 hb' => ?_
  have hb := hb.gr g2
  have g := zf_ g1 g2
  simp only [go_sem, Nat.reduceEqDiff]
  rw [ldB3 hb rfl, ldB3 hb' rfl]
  simp only [go_sem, Nat.reduceEqDiff]
  by_cases h : r.1 = q.1
  · simp only [h, decide_true, go_sem, Nat.reduceEqDiff]
    rw [zrd_ hb rfl]
    rw [zrd_ hb' rfl]
    refine ztv_ (hy.is.gr g) (hz.is.gr g) fun w3 g3 => ?_
    have := hk w3 (zf_ g g3)
    by_cases h2 : r.2 = q.2
    · simp only [h2, decide_true, go_sem, Nat.reduceEqDiff]
      rwa [decide_eq_true (Prod.ext h h2)] at this
    · simp only [h2, decide_false, go_sem, Nat.reduceEqDiff]
      rwa [decide_eq_false (fun e => h2 (by rw [e]))] at this
  · simp only [h, decide_false, go_sem, Nat.reduceEqDiff]
    have := hk w2 g
    rwa [decide_eq_false (fun e => h (by rw [e]))] at this
theorem zfw_ {E F : Nat → Prop} {w : World} {v : Value} {q r : RuleL} {Z : Option Addr} {b d e : Nat} (hv : RuleV E w v q) (hB : Box w b [.int .i64 r.1, .slice Z r.2.length d] e) (hz : IntsF F w Z r.2) (hd : r.2.length ≤ d) {k : Value → World → Prop} (hk : ∀ w', Gr w w' → k (.bool (decide (q = r))) w') :
    CallK Try.prog 249 ([v] ++ [.pointer (some ⟨b, 0, none⟩)]) k w := by
  refine enter249 ?_
  unfold S249
  obtain ⟨Y, c, rfl, hc, hy⟩ := hv
  refine zpd_ fun b1 w1 g1 hb1 hB1 => ?_
  rw [zv_ zbe_ sz33 rfl hB1, zv_ zbe_ sz33 rfl (hB.gr g1)]
  exact sameRule_c (r := q) (q := r) ⟨Y, c, rfl, hc, hy.gr g1⟩ ⟨Z, d, rfl, hd, hz.gr g1⟩ fun w2 g2 => hk w2 (zf_ g1 g2)
theorem zug_ {F : Nat → Prop} {w : World} {v : Value} {gm : Gram} (hv : GramV F w v gm) {k : Value → World → Prop} (hk : ∀ w', Gr w w' → k (.bool (zy_ gm)) w') :
    CallK Try.prog 148 [v] k w := by
  have hv0 := hv
  obtain ⟨Y, c, rfl, hc, hy⟩ := hv
  refine enter148 ?_
  unfold S148
  refine zpd_ fun b w1 g1 hb1 hB => ?_
  simp only [go_sem, Nat.reduceEqDiff]
  rw [ldB3 hB rfl]
  refine in_c ?_
  cases hn : inB gm.nons 1 6
  · simp only [Bool.not_false, go_sem, Nat.reduceEqDiff]
    have := hk _ g1
    rwa [show zy_ gm = false from by simp [zy_, hn]] at this
  simp only [Bool.not_true, go_sem, Nat.reduceEqDiff]
  rw [ldB3 hB rfl]
  refine in_c ?_
  cases ht : inB gm.toks 1 4
  · simp only [Bool.not_false, go_sem, Nat.reduceEqDiff]
    have := hk _ g1
    rwa [show zy_ gm = false from by simp [zy_, ht]] at this
  simp only [Bool.not_true, go_sem, Nat.reduceEqDiff]
  rw [zuf_ hB rfl]
  simp only [go_sem, Nat.reduceEqDiff]
  by_cases hl : gm.rules.length ≤ 16
  rotate_left
  · simp only [show (16 : Int) < gm.rules.length from by omega, decide_true, go_sem, Nat.reduceEqDiff]
    have := hk _ g1
    rwa [show zy_ gm = false from by simp [zy_, hl]] at this
  simp only [show ¬ (16 : Int) < gm.rules.length from by omega, decide_false, go_sem, Nat.reduceEqDiff]
  rw [zuf_ hB rfl]
  simp only [go_sem, Nat.reduceEqDiff]
  have hn' : 1 ≤ gm.nons ∧ gm.nons ≤ 6 := by simpa [inB] using hn
  have ht' : 1 ≤ gm.toks ∧ gm.toks ≤ 4 := by simpa [inB] using ht
  refine ⟨fun f w' => ∃ i : Nat, i ≤ gm.rules.length ∧ f 24 = .int .i64 i ∧ Gr w1 w' ∧ ∀ j, j < i → zde_ gm.nons gm.toks gm.rules j = true, fun f _ => gm.rules.length - (intOf (f 24)).toNat, ⟨0, Nat.zero_le _, rfl, Gr.refl w1, fun j hj => absurd hj (Nat.not_lt_zero j)⟩, ?_⟩
  rintro f w2 hag ⟨i, hi, h28, g2, hpre⟩
  have f1 : f 1 = .pointer (some ⟨b, 0, none⟩) := hag 1 (by decide)
  have f26 : f 22 = .slice Y gm.rules.length c := hag 22 (by decide)
  have f27 : f 23 = .int .i64 gm.rules.length := hag 23 (by decide)
  simp only [f1, f26, f27, h28, go_sem, Nat.reduceEqDiff]
  by_cases hlt : i < gm.rules.length
  · have hlt' : (i : Int) < gm.rules.length := by omega
    simp only [hlt', decide_true, go_sem, Nat.reduceEqDiff]
    have g := zf_ g1 g2
    rw [zwe_ hy.ptr hlt]
    refine zim_ zbe_ sz33 (hy.gr g) hlt fun v hv => ?_
    obtain ⟨Z, d, rfl, hd, hz⟩ := hv
    refine zag_ zhd_ fun b3 w3 g3 hb3 h3 => ?_
    have n3 := (hB.gr g2).ne hb3
    refine zwi_ sz33 rfl (by intro u hu; simp [Value.cells] at hu; rcases hu with rfl | rfl <;> rfl) h3 (by simp [Value.cells]) fun w4 g4 s4 h4 => ?_
    have hB2 := (hB.gr (zf_ g2 g3)).put g4 n3
    have g' := zyi_ (zf_ g g3) g4 (Nat.le_trans g.size hb3)
    have k0 : zde_ gm.nons gm.toks gm.rules i = false → ∀ w', Gr w w' → k (.bool false) w' := fun h w' gw => by
      have := hk w' gw
      rwa [show zy_ gm = false from by simp only [zy_, zmu_ hlt h, Bool.and_false]] at this
    simp only [go_sem, Nat.reduceEqDiff]
    rw [ldB3 h4 rfl, ldB3 hB2 rfl]
    simp only [go_sem, Nat.reduceEqDiff]
    rw [zj_ (by omega) (by omega)]
    refine in_c ?_
    cases hr : inB (rul gm.rules i).1 0 (gm.nons - 1)
    · simp only [Bool.not_false, go_sem, Nat.reduceEqDiff]
      exact k0 (by simp [zde_, hr]) _ g'
    simp only [Bool.not_true, go_sem, Nat.reduceEqDiff]
    rw [zrd_ h4 rfl]
    simp only [go_sem, Nat.reduceEqDiff]
    by_cases h5 : (rul gm.rules i).2.length ≤ 4
    rotate_left
    · simp only [show (4 : Int) < (rul gm.rules i).2.length from by omega, decide_true, go_sem, Nat.reduceEqDiff]
      exact k0 (by simp [zde_, h5]) _ g'
    simp only [show ¬ (4 : Int) < (rul gm.rules i).2.length from by omega, decide_false, go_sem, Nat.reduceEqDiff]
    rw [zrd_ h4 rfl]
    rw [ldB3 hB2 rfl]
    rw [ldB3 hB2 rfl]
    have g24 := zyi_ g3 g4 hb3
    refine zew_ (hz.is.gr g24) hn ht fun w5 g5 => ?_
    simp only [go_sem, Nat.reduceEqDiff]
    cases hs : (rul gm.rules i).2.all (symB gm.nons gm.toks)
    · simp only [Bool.not_false, go_sem, Nat.reduceEqDiff]
      exact k0 (by simp only [zde_, hs, Bool.and_false, Bool.false_and]) _ (zf_ g' g5)
    simp only [Bool.not_true, go_sem, Nat.reduceEqDiff]
    have gw5 := zf_ g' g5
    rw [zuf_ (hB2.gr g5) rfl]
    rw [slh24 (by omega) (by omega), sub_zero]
    simp only [Int.toNat_natCast, go_sem, Nat.reduceEqDiff]
    have hti : (gm.rules.take i).length = i := by simp; omega
    have hyt : RulesF F w5 Y (gm.rules.take i) := (hy.gr gw5).take i
    have hp : PredR 4 (.func (.func 249) [].toArray [.pointer (some ⟨b3, 0, none⟩)].toArray) (fun q => decide (q = rul gm.rules i)) w5 := fun w6 g6 E v q hv k hk =>
      callVc (zfw_ hv (h4.gr (zf_ g5 g6)) (hz.gr (zf_ g24 (zf_ g5 g6))) hd hk)
    have hcf := zkr_ (c := c) hyt hp (k := ?k)
    rw [hti] at hcf
    refine hcf ?_
    intro w6 g6
    have e : (gm.rules.take i).any (fun q => decide (q = rul gm.rules i)) = (gm.rules.take i).any (fun q => decide (rul gm.rules i = q)) := by
      congr 1
      funext q
      exact decide_eq_decide.2 ⟨fun h => h.symm, fun h => h.symm⟩
    rw [e]
    cases ha : (gm.rules.take i).any (fun q => decide (rul gm.rules i = q))
    · simp only [go_sem, Nat.reduceEqDiff]
      have d28 : f 24 = .int .i64 i := h28
      rw [zj_ (by omega) (by omega)]
      refine ⟨⟨i + 1, hlt, rfl, zf_ (zf_ g2 g24) (zf_ g5 g6), fun l hl => ?_⟩, ?_⟩
      · rcases Nat.lt_succ_iff_lt_or_eq.1 hl with h | rfl
        · exact hpre l h
        · simp only [zde_, hr, h5, hs, ha, decide_true, Bool.not_false, Bool.and_self]
      · simp only [intOf]
        omega
    · simp only [go_sem, Nat.reduceEqDiff]
      exact k0 (by simp only [zde_, ha, Bool.not_true, Bool.and_false]) _ (zf_ gw5 g6)
  · simp only [show ¬ (i : Int) < gm.rules.length from by omega, decide_false, go_sem, Nat.reduceEqDiff]
    have := hk _ (zf_ g1 g2)
    rwa [show zy_ gm = true from by simp only [zy_, hn, ht, hl, decide_true, Bool.true_and]; exact zch_ fun j hj => hpre j (by omega)] at this
end Go.Proofs.Ytegcjkhebecgbaa

namespace Go.Sh
open Go
end Go.Sh
namespace Go.Proofs.Ytegcjkhebecgbaa
open Go Go.Sh Go.RowKit

end Go.Proofs.Ytegcjkhebecgbaa

namespace Go.Sh
open Go
def gmn (gs : List Gram) (j : Nat) : Gram := gs.getD j ⟨0, 0, []⟩
structure GramsF (F : Nat → Prop) (w : World) (X : Option Addr) (gs : List Gram) : Prop where
  le : gs.length ≤ 9223372036854775807
  ptr : 0 < gs.length → X = some (ad X)
  foot : 0 < gs.length → F (ad X).block
  row : ∀ j, j < gs.length → ∃ Y c, w.cell? ((ad X).add (j * 3)) = some (.int .i64 (gmn gs j).nons) ∧ w.cell? ((ad X).add (j * 3 + 1)) = some (.int .i64 (gmn gs j).toks) ∧ w.cell? ((ad X).add (j * 3 + 2)) = some (.slice Y (gmn gs j).rules.length c) ∧ (gmn gs j).rules.length ≤ c ∧ RulesF F w Y (gmn gs j).rules
theorem GramsF.gx {F D : Nat → Prop} {w w' : World} {X : Option Addr} {gs : List Gram} (h : GramsF F w X gs) (g : Gx D w w') (hn : ∀ b, F b → ¬ D b) : GramsF F w' X gs := by
  refine ⟨h.le, h.ptr, h.foot, fun j hj => ?_⟩
  obtain ⟨Y, c, h1, h2, h3, h4, h5⟩ := h.row j hj
  have hf := hn _ (h.foot (by omega))
  exact ⟨Y, c, g.cell h1 (by rw [zkc_]; exact hf), g.cell h2 (by rw [zkc_]; exact hf), g.cell h3 (by rw [zkc_]; exact hf), h4, h5.gx g hn⟩
theorem zhg_ {g : Gram} (hg : zy_ g = true) : g.rules.length ≤ 16 := by
  simp only [zy_, Bool.and_eq_true, decide_eq_true_eq] at hg
  exact hg.1.2
def From (w : World) (X0 X : Option Addr) : Prop := ∀ q, blk X = some q → q < w.heap.size → blk X0 = some q
theorem From.moved {w w2 : World} {X0 X X' : Option Addr} (h : From w X0 X) (hm : Moved w2 X X') (hs : w.heap.size ≤ w2.heap.size) : From w X0 X' := by
  intro q hq hlt
  rcases hm with e | e
  · exact h q (e ▸ hq) hlt
  · have := e q hq
    omega
abbrev zeroGram : Value := .agg #[.int .i64 0, .int .i64 0, .slice none 0 0]
end Go.Sh
namespace Go.Proofs.Ytegcjkhebecgbaa
open Go Go.Sh Go.RowKit

end Go.Proofs.Ytegcjkhebecgbaa

namespace Go.Sh
open Go
def GramR (w : World) (B : Nat) (v : Value) : Option Gram → Prop
  | some m => GramO w B v m
  | none => v = zeroGram
theorem GramR.put {w w' : World} {B b t : Nat} {v : Value} {o : Option Gram} {cs : List Value} (h : GramR w B v o) (hb : Box w b cs t) (h1 : 33 ≠ t) (h2 : 3 ≠ t) (g : w.grownBy w' (some b)) : GramR w' B v o := by
  cases o with
  | none => exact h
  | some m =>
    obtain ⟨X, c, ps, e, ho⟩ := h
    exact ⟨X, c, ps, e, ho.put hb h1 h2 g⟩
theorem GramR.three {w : World} {B : Nat} {v : Value} {o : Option Gram} (h : GramR w B v o) : ∃ x y z, v = .agg #[x, y, z] ∧ x.oneCell' = true ∧ y.oneCell' = true ∧ z.oneCell' = true := by
  cases o with
  | none => exact ⟨_, _, _, h, rfl, rfl, rfl⟩
  | some m =>
    obtain ⟨X, c, ps, e, ho⟩ := h
    exact ⟨_, _, _, e, rfl, rfl, rfl⟩
end Go.Sh
namespace Go.Proofs.Ytegcjkhebecgbaa
open Go Go.Sh Go.RowKit

end Go.Proofs.Ytegcjkhebecgbaa

namespace Go.Sh
open Go
theorem zwd_ {g : Gram} (hg : zy_ g = true) : ∀ i, i < g.rules.length → (rul g.rules i).2.length ≤ 4 := fun i hi => by
  simp only [zy_, Bool.and_eq_true, List.all_eq_true] at hg
  have := hg.2 i (List.mem_range.2 hi)
  simp only [zde_, Bool.and_eq_true, decide_eq_true_eq] at this
  exact this.1.1.2
end Go.Sh
namespace Go.Proofs.Ytegcjkhebecgbaa
open Go Go.Sh Go.RowKit

end Go.Proofs.Ytegcjkhebecgbaa

namespace Go.Sh
open Go
def rgt (rl : List (List Int)) (j : Nat) : List Int := rl.getD j []
structure Intss (w : World) (X : Option Addr) (rl : List (List Int)) : Prop where
  le : rl.length ≤ 9223372036854775807
  ptr : 0 < rl.length → X = some (ad X)
  row : ∀ j, j < rl.length → ∃ Y c, w.cell? ((ad X).add j) = some (.slice Y (rgt rl j).length c) ∧ (rgt rl j).length ≤ c ∧ Ints w Y (rgt rl j)
theorem Intss.gr {w w' : World} {X : Option Addr} {rl : List (List Int)} (h : Intss w X rl) (g : Gr w w') : Intss w' X rl := ⟨h.le, h.ptr, fun j hj => by
  obtain ⟨Y, c, h1, h2, h3⟩ := h.row j hj
  exact ⟨Y, c, g.cell h1, h2, h3.gr g⟩⟩
def firsts (rl : List (List Int)) : List RuleL := rl.map fun r => (0, r)
theorem OwnR.congr {e1 e2 : Nat} {w : World} {B c : Nat} {X : Option Addr} {rs : List RuleL} {ps qs : Nat → Option Addr × Nat} (h : OwnR e1 e2 w B X c rs ps) (he : ∀ j, j < rs.length → qs j = ps j) : OwnR e1 e2 w B X c rs qs := by
  obtain ⟨⟨cells, hr, hc⟩, ho, ht⟩ := h
  refine ⟨⟨cells, hr, fun j hj => by rw [he j hj]; exact hc j hj⟩, fun j hj => by rw [he j hj]; exact ho j hj, fun i j hi hj hij => ?_⟩
  rw [he i hi, he j hj]
  exact ht i j hi hj hij
theorem zpm_ {U V : Option Addr} (h : blk U = none ∨ blk U ≠ blk V) : blk V = none ∨ blk V ≠ blk U := by
  cases hq : blk V with
  | none => exact .inl rfl
  | some q =>
    refine .inr fun e => ?_
    rcases h with h | h
    · rw [h] at e; cases e
    · exact h (by rw [hq, e])
end Go.Sh
namespace Go.Proofs.Ytegcjkhebecgbaa
open Go Go.Sh Go.RowKit

end Go.Proofs.Ytegcjkhebecgbaa

namespace Go.Sh
open Go
def emp : Thing := ⟨fun _ => True, fun _ => False⟩
theorem Apt.join {w0 w w' : World} {L : List Thing} (H : Apt w0 w L) {i j : Nat} {a b it : Thing} (hij : i ≠ j) (hi : L[i]? = some a) (hj : L[j]? = some b) (g : Gx (fun q => a.ft q ∨ b.ft q) w w') (lo : ∀ q, it.ft q → a.ft q ∨ b.ft q ∨ w.heap.size ≤ q) (hh : ∀ q, it.ft q → q < w'.heap.size)
    (kept : ∀ w'', (∀ q, it.ft q → w''.heap[q]? = w'.heap[q]?) → it.P w'') : Apt w0 w' ((L.set i it).set j emp) := by
  have ha := H.ok i a hi
  have hb := H.ok j b hj
  have hsz := H.gr.size
  have sub : ∀ l x, ((L.set i it).set j emp)[l]? = some x → (l = j ∧ x = emp) ∨ (l = i ∧ l ≠ j ∧ x = it) ∨ (l ≠ i ∧ l ≠ j ∧ L[l]? = some x) := fun l x hx => by
    rcases zuj_ hx with h | ⟨h1, h2⟩
    · exact .inl h
    · rcases zuj_ h2 with ⟨h3, h4⟩ | ⟨h3, h4⟩
      · exact .inr (.inl ⟨h3, h1, h4⟩)
      · exact .inr (.inr ⟨h3, h1, h4⟩)
  refine ⟨Gx.gr_after H.gr g fun q hq => hq.elim (ha.lo q) (hb.lo q), fun l x hx => ?_, fun l m x y hlm hx hy q hq hq' => ?_⟩
  · rcases sub l x hx with ⟨_, rfl⟩ | ⟨_, _, rfl⟩ | ⟨h1, h2, h3⟩
    · exact ⟨fun q hq => hq.elim, fun q hq => hq.elim, fun _ _ => trivial⟩
    · refine ⟨fun q hq => ?_, hh, kept⟩
      rcases lo q hq with h | h | h
      · exact ha.lo q h
      · exact hb.lo q h
      · omega
    · have := H.ok l x h3
      exact this.step g.size fun q hq => g.block q (this.hi q hq) fun hq' => hq'.elim (H.two l i x a h1 h3 hi q hq) (H.two l j x b h2 h3 hj q hq)
  · rcases sub l x hx with ⟨_, rfl⟩ | ⟨hli, _, rfl⟩ | ⟨h1, h2, h3⟩
    · exact hq
    · rcases sub m y hy with ⟨_, rfl⟩ | ⟨hmi, _, rfl⟩ | ⟨g1, g2, g3⟩
      · exact hq'
      · exact hlm (hli.trans hmi.symm)
      · rcases lo q hq with h | h | h
        · exact H.two i m a y (fun e => g1 e.symm) hi g3 q h hq'
        · exact H.two j m b y (fun e => g2 e.symm) hj g3 q h hq'
        · have := (H.ok m y g3).hi q hq'
          omega
    · rcases sub m y hy with ⟨_, rfl⟩ | ⟨hmi, _, rfl⟩ | ⟨g1, g2, g3⟩
      · exact hq'
      · rcases lo q hq' with h | h | h
        · exact H.two l i x a h1 h3 hi q hq h
        · exact H.two l j x b h2 h3 hj q hq h
        · have := (H.ok l x h3).hi q hq
          omega
      · exact H.two l m x y hlm h3 g3 q hq hq'
structure OwnSS (e1 e2 : Nat) (w : World) (B : Nat) (X : Option Addr) (c : Nat) (ls : List (List Int)) (ps : Nat → Option Addr × Nat) : Prop where
  row : ∃ cells, Row w B e1 1 X ls.length c cells ∧ ∀ j, j < ls.length → cells[j]? = some (.slice (ps j).1 (rgt ls j).length (ps j).2)
  own : ∀ j, j < ls.length → Own e2 w B (ps j).1 (ps j).2 (rgt ls j)
  two : ∀ i j, i < ls.length → j < ls.length → i ≠ j → blk (ps i).1 = none ∨ blk (ps i).1 ≠ blk (ps j).1
theorem OwnSS.same {e1 e2 : Nat} {w w' : World} {B : Nat} {X : Option Addr} {c : Nat} {ls : List (List Int)} {ps : Nat → Option Addr × Nat} (h : OwnSS e1 e2 w B X c ls ps) (hs : ∀ q, Foot X ps ls.length q → w'.heap[q]? = w.heap[q]?) : OwnSS e1 e2 w' B X c ls ps := by
  obtain ⟨⟨cells, hr, hc⟩, ho, ht⟩ := h
  exact ⟨⟨cells, hr.same fun q hq => hs q (.inl hq), hc⟩, fun j hj => Row.same (ho j hj) fun q hq => hs q (.inr ⟨j, hj, hq⟩), ht⟩
theorem OwnSS.up {e1 e2 : Nat} {w : World} {B B' : Nat} {X : Option Addr} {c : Nat} {ls : List (List Int)} {ps : Nat → Option Addr × Nat} (h : OwnSS e1 e2 w B X c ls ps) (hs : ∀ q, Foot X ps ls.length q → B' ≤ q) : OwnSS e1 e2 w B' X c ls ps := by
  obtain ⟨⟨cells, hr, hc⟩, ho, ht⟩ := h
  exact ⟨⟨cells, hr.up fun q hq => hs q (.inl hq), hc⟩, fun j hj => Row.up (ho j hj) fun q hq => hs q (.inr ⟨j, hj, hq⟩), ht⟩
theorem OwnSS.mono {e1 e2 : Nat} {w : World} {B B' : Nat} {X : Option Addr} {c : Nat} {ls : List (List Int)} {ps : Nat → Option Addr × Nat} (h : OwnSS e1 e2 w B X c ls ps) (hb : B' ≤ B) : OwnSS e1 e2 w B' X c ls ps := by
  obtain ⟨⟨cells, hr, hc⟩, ho, ht⟩ := h
  exact ⟨⟨cells, Row.mono hr hb, hc⟩, fun j hj => Row.mono (ho j hj) hb, ht⟩
theorem OwnSS.foot {e1 e2 : Nat} {w : World} {B c : Nat} {X : Option Addr} {ls : List (List Int)} {ps : Nat → Option Addr × Nat} (h : OwnSS e1 e2 w B X c ls ps) {q : Nat} (hq : Foot X ps ls.length q) : B ≤ q ∧ q < w.heap.size := by
  obtain ⟨⟨cells, hr, hc⟩, ho, ht⟩ := h
  rcases hq with hq | ⟨l, hl, hq⟩
  · exact hr.ge hq
  · exact Row.ge (ho l hl) hq
theorem OwnSS.gr {e1 e2 : Nat} {w w' : World} {B : Nat} {X : Option Addr} {c : Nat} {ls : List (List Int)} {ps : Nat → Option Addr × Nat} (h : OwnSS e1 e2 w B X c ls ps) (g : Gr w w') : OwnSS e1 e2 w' B X c ls ps := h.same fun q hq => g.block q (h.foot hq).2 (by simp)
theorem OwnSS.read {e1 e2 : Nat} {w : World} {B : Nat} {X : Option Addr} {c : Nat} {ls : List (List Int)} {ps : Nat → Option Addr × Nat} (h : OwnSS e1 e2 w B X c ls ps) : Intss w X ls := by
  obtain ⟨⟨cells, hr, hc⟩, ho, ht⟩ := h
  have hcap := hr.cap
  refine ⟨by omega, fun hp => hr.ptr hp, fun j hj => ?_⟩
  have hc' := Row.cap (ho j hj)
  exact ⟨(ps j).1, (ps j).2, hr.src.cell _ _ (hc j hj), by omega, Own.ints (ho j hj)⟩
def lssi (e1 e2 : Nat) (X : Option Addr) (c : Nat) (ls : List (List Int)) (ps : Nat → Option Addr × Nat) : Thing := ⟨fun w => OwnSS e1 e2 w 0 X c ls ps, Foot X ps ls.length⟩
theorem zdh_ {w : World} {B e1 e2 c : Nat} {X : Option Addr} {ls : List (List Int)} {ps : Nat → Option Addr × Nat} (h : OwnSS e1 e2 w B X c ls ps) : ∀ w', (∀ q, (lssi e1 e2 X c ls ps).ft q → w'.heap[q]? = w.heap[q]?) → (lssi e1 e2 X c ls ps).P w' := fun w' hq => (h.mono (Nat.zero_le B)).same hq
theorem Apt.lssi {w0 w : World} {L : List Thing} (H : Apt w0 w L) (i : Nat) {e1 e2 c : Nat} {X : Option Addr} {ls : List (List Int)} {ps : Nat → Option Addr × Nat} (hi : L[i]? = some (lssi e1 e2 X c ls ps)) : OwnSS e1 e2 w w0.heap.size X c ls ps := OwnSS.up (H.get i hi) (H.ok i _ hi).lo
theorem Apt.addLss {w0 w w' : World} {L : List Thing} (H : Apt w0 w L) (g : Gr w w') {e1 e2 c : Nat} {X : Option Addr} {ls : List (List Int)} {ps : Nat → Option Addr × Nat} (h : OwnSS e1 e2 w' w.heap.size X c ls ps) : Apt w0 w' (L ++ [Sh.lssi e1 e2 X c ls ps]) := H.add g _ (fun q hq => (h.foot hq).1) (fun q hq => (h.foot hq).2) (zdh_ h)
theorem OwnSS.nil (w : World) (B e1 e2 : Nat) (ps : Nat → Option Addr × Nat) : OwnSS e1 e2 w B none 0 [] ps := ⟨⟨[], Row.nil _ _ _ _, fun j hj => by simp at hj⟩, fun j hj => by simp at hj, fun i j hi => by simp at hi⟩
theorem zxh_ {ls ms : List (List Int)} {i : Nat} (h : i < ls.length) : rgt (ls ++ ms) i = rgt ls i := by
  simp [rgt, List.getD_eq_getElem?_getD, List.getElem?_append_left h]
theorem zmp_ {ls : List (List Int)} {y : List Int} : rgt (ls ++ [y]) ls.length = y := by
  simp [rgt, List.getD_eq_getElem?_getD]
theorem zgi_ {ls : List (List Int)} {i : Nat} (h : i < ls.length) : rgt ls i = ls[i] := by simp [rgt, List.getD_eq_getElem?_getD, h]
theorem zad_ {ls : List (List Int)} {i : Nat} (h : i < ls.length) : ls.take (i + 1) = ls.take i ++ [rgt ls i] := by
  rw [List.take_succ_eq_append_getElem h, zgi_ h]
theorem OwnSS.push {e1 e2 : Nat} {w w' : World} {B B' c d c' : Nat} {X X' Y : Option Addr} {ls : List (List Int)} {ys : List Int} {ps : Nat → Option Addr × Nat} {cells : List Value} (h : OwnSS e1 e2 w B X c ls ps) (ho : Own e2 w B' Y d ys) (hne : ∀ l, l < ls.length → blk (ps l).1 = none ∨ blk (ps l).1 ≠ blk Y) (he : e1 ≠ e2)
    (hr0 : Row w B e1 1 X ls.length c cells) (hc : ∀ j, j < ls.length → cells[j]? = some (.slice (ps j).1 (rgt ls j).length (ps j).2)) (hr : Row w' B e1 1 X' (ls.length + 1) c' (cells ++ [.slice Y ys.length d])) (g : w.grownBy w' (blk X)) : OwnSS e1 e2 w' 0 X' c' (ls ++ [ys]) (fun i => if i = ls.length then (Y, d) else ps i) := by
  have hlen := hr0.len
  refine ⟨⟨_, by rw [List.length_append]; exact Row.mono hr (Nat.zero_le _), fun j hj => ?_⟩, fun j hj => ?_, fun i j hi hj hij => ?_⟩
  · by_cases hlt : j < ls.length
    · rw [List.getElem?_append_left (by omega), hc j hlt, zxh_ hlt, if_neg (by omega)]
    · obtain rfl : j = ls.length := by simp at hj; omega
      rw [List.getElem?_append_right (by omega), zmp_, if_pos rfl, hlen]
      simp
  · by_cases hlt : j < ls.length
    · rw [if_neg (by omega), zxh_ hlt]
      exact Row.mono (Row.kept (h.own j hlt) g (ztg_ (h.own j hlt) hr0 fun e => he e.symm)) (Nat.zero_le _)
    · obtain rfl : j = ls.length := by simp at hj; omega
      rw [if_pos rfl, zmp_]
      exact Row.mono (Row.kept ho g (ztg_ ho hr0 fun e => he e.symm)) (Nat.zero_le _)
  · rw [List.length_append] at hi hj
    simp only [List.length_cons, List.length_nil] at hi hj
    by_cases h1 : i < ls.length <;> by_cases h2 : j < ls.length
    · rw [if_neg (by omega), if_neg (by omega)]
      exact h.two i j h1 h2 hij
    · obtain rfl : j = ls.length := by omega
      rw [if_neg (by omega), if_pos rfl]
      exact hne i h1
    · obtain rfl : i = ls.length := by omega
      rw [if_pos rfl, if_neg (by omega)]
      exact zpm_ (hne j h2)
    · omega
theorem ztk_ {ls ms : List (List Int)} {i : Nat} (h : ls.length ≤ i) : rgt (ls ++ ms) i = rgt ms (i - ls.length) := by
  simp [rgt, List.getD_eq_getElem?_getD, List.getElem?_append_right h]
theorem OwnSS.append {e1 e2 : Nat} {w w' : World} {B B' c d c' : Nat} {X X' Y : Option Addr} {ls ms : List (List Int)} {ps qs : Nat → Option Addr × Nat} {cells news : List Value} (h : OwnSS e1 e2 w B X c ls ps) (g0 : OwnSS e1 e2 w B' Y d ms qs) (hne : ∀ l m, l < ls.length → m < ms.length → blk (ps l).1 = none ∨ blk (ps l).1 ≠ blk (qs m).1) (he : e1 ≠ e2)
    (hr0 : Row w B e1 1 X ls.length c cells) (hc : ∀ j, j < ls.length → cells[j]? = some (.slice (ps j).1 (rgt ls j).length (ps j).2)) (hnl : news.length = ms.length) (hN : ∀ j, j < ms.length → news[j]? = some (.slice (qs j).1 (rgt ms j).length (qs j).2)) (hr : Row w' B e1 1 X' (ls.length + ms.length) c' (cells ++ news)) (g : w.grownBy w' (blk X)) : OwnSS e1 e2 w' 0 X' c' (ls ++ ms) (joinP ls.length ps qs) := by
  have hlen := hr0.len
  refine ⟨⟨_, by rw [List.length_append]; exact Row.mono hr (Nat.zero_le _), fun j hj => ?_⟩, fun j hj => ?_, fun i j hi hj hij => ?_⟩
  · rw [List.length_append] at hj
    by_cases hlt : j < ls.length
    · rw [List.getElem?_append_left (by omega), hc j hlt, zxh_ hlt]
      simp only [joinP, hlt, if_true]
    · rw [List.getElem?_append_right (by omega), ztk_ (by omega)]
      simp only [joinP, hlt, if_false]
      rw [show j - cells.length = j - ls.length from by omega]
      exact hN _ (by omega)
  · rw [List.length_append] at hj
    by_cases hlt : j < ls.length
    · rw [zxh_ hlt]
      simp only [joinP, hlt, if_true]
      exact Row.mono (Row.kept (h.own j hlt) g (ztg_ (h.own j hlt) hr0 fun e => he e.symm)) (Nat.zero_le _)
    · rw [ztk_ (by omega)]
      simp only [joinP, hlt, if_false]
      exact Row.mono (Row.kept (g0.own _ (by omega)) g (ztg_ (g0.own _ (by omega)) hr0 fun e => he e.symm)) (Nat.zero_le _)
  · rw [List.length_append] at hi hj
    by_cases h1 : i < ls.length <;> by_cases h2 : j < ls.length <;> simp only [joinP, h1, h2, if_true, if_false]
    · exact h.two i j h1 h2 hij
    · exact hne i _ h1 (by omega)
    · exact zpm_ (hne j _ h2 (by omega))
    · exact g0.two _ _ (by omega) (by omega) (by omega)
theorem OwnSS.put {e1 e2 : Nat} {w w' : World} {B c i m : Nat} {x : Int} {X : Option Addr} {ls : List (List Int)} {ps : Nat → Option Addr × Nat} (h : OwnSS e1 e2 w B X c ls ps) (he : e1 ≠ e2) (hi : i < ls.length) (hr : Row w' B e2 1 (ps i).1 (rgt ls i).length (ps i).2 (ints ((rgt ls i).set m x))) (g : w.grownBy w' (blk (ps i).1)) : OwnSS e1 e2 w' B X c (ls.set i ((rgt ls i).set m x)) ps := by
  obtain ⟨⟨cells, hr0, hc⟩, ho, ht⟩ := h
  have hg : ∀ j, rgt (ls.set i ((rgt ls i).set m x)) j = if j = i then (rgt ls i).set m x else rgt ls j := fun j => by
    simp only [rgt, List.getD_eq_getElem?_getD, List.getElem?_set]
    by_cases hij : i = j
    · subst hij
      simp [hi]
    · rw [if_neg hij, if_neg (fun e => hij e.symm)]
  refine ⟨⟨cells, by rw [List.length_set]; exact Row.kept hr0 g (ztg_ hr0 (ho i hi) he), fun j hj => ?_⟩, fun j hj => ?_, fun a b ha hb hab => ?_⟩
  · rw [List.length_set] at hj
    rw [hc j hj, hg j]
    by_cases hij : j = i
    · subst hij
      rw [if_pos rfl, List.length_set]
    · rw [if_neg hij]
  · rw [List.length_set] at hj
    rw [hg j]
    by_cases hij : j = i
    · subst hij
      rw [if_pos rfl]
      unfold Own
      rw [List.length_set]
      exact hr
    · rw [if_neg hij]
      exact Row.kept (ho j hj) g (ht j i hj hi hij)
  · rw [List.length_set] at ha hb
    exact ht a b ha hb hab
theorem OwnSS.ptr {e1 e2 : Nat} {w : World} {B c : Nat} {X : Option Addr} {ls : List (List Int)} {ps : Nat → Option Addr × Nat} (h : OwnSS e1 e2 w B X c ls ps) (hl : 0 < ls.length) : X = some (ad X) := by
  obtain ⟨⟨cells, hr, hc⟩, _⟩ := h
  exact hr.ptr hl
theorem OwnSS.cell {e1 e2 : Nat} {w : World} {B c : Nat} {X : Option Addr} {ls : List (List Int)} {ps : Nat → Option Addr × Nat} (h : OwnSS e1 e2 w B X c ls ps) {j : Nat} (hj : j < ls.length) : w.cell? ((ad X).add j) = some (.slice (ps j).1 (rgt ls j).length (ps j).2) := by
  obtain ⟨⟨cells, hr, hc⟩, _⟩ := h
  exact hr.src.cell _ _ (hc j hj)
theorem Apt.single {w0 w : World} {L : List Thing} (H : Apt w0 w L) {i j : Nat} (hij : i ≠ j) {e1 e2 c d : Nat} {X Y : Option Addr} {ys : List Int} (hi : L[i]? = some (rwi e1 1 X 1 c [.slice Y ys.length d])) (hj : L[j]? = some (rwi e2 1 Y ys.length d (Sh.ints ys))) : Apt w0 w ((L.set i (Sh.lssi e1 e2 X c [ys] fun _ => (Y, d))).set j emp) := by
  have hr := H.row i hi
  have ho := H.row j hj
  have o : OwnSS e1 e2 w w0.heap.size X c [ys] fun _ => (Y, d) := by
    refine ⟨⟨_, hr, fun l hl => ?_⟩, fun l hl => ?_, fun a b ha hb hab => ?_⟩
    · obtain rfl : l = 0 := by simpa using hl
      rfl
    · obtain rfl : l = 0 := by simpa using hl
      exact ho
    · simp at ha hb
      omega
  refine H.join hij hi hj (Gx.refl _ w) (fun q hq => ?_) (fun q hq => (o.foot hq).2) (zdh_ o)
  rcases hq with hq | ⟨l, hl, hq⟩
  · exact .inl hq
  · exact .inr (.inl hq)
end Go.Sh
namespace Go.Proofs.Ytegcjkhebecgbaa
open Go Go.Sh Go.RowKit
abbrev lss (X : Option Addr) (c : Nat) (ls : List (List Int)) (ps : Nat → Option Addr × Nat) : Thing := lssi 27 3 X c ls ps
section
variable {k : Value → World → Prop} {w0 w w' : World} {L : List Thing}
theorem zvj_ {k : Value → Value → World → Prop} (H : Apt w0 w L) (i j : Nat) (hij : i ≠ j) {u n c m d : Nat} {X Y : Option Addr} {ls : List (List Int)} {ys : List Int} {ps : Nat → Option Addr × Nat} (hi : L[i]? = some (lss X c ls ps)) (hj : L[j]? = some (ows Y d ys)) {cs : List Bool} (hn : n = ls.length) (hm : m = ys.length) (hb : ls.length ≤ 1000000000)
    (h : ∀ t X' c' w' ps', Apt w0 w' ((L.set i (lss X' c' (ls ++ [ys]) ps')).set j emp) → k t (.slice X' (ls ++ [ys]).length c') w') : Do Try.prog (zh_ 35 1 [(0, .slice Y m d)]) (fun t w1 => Do Try.prog (ze_ .append #[35, 35] u cs [.slice X n c, t]) (k t) w1) w := by
  subst hn hm
  refine bs35 [.slice Y ys.length d] (by decide) (by simp [Instr.fill, madeCells, Value.cells, rng1]) rfl fun b w1 hb1 hb2 g hB hr => ?_
  have H1 := H.step g
  have o1 := H1.lssi i hi
  have o1' := o1
  obtain ⟨⟨cells, hr1, hc⟩, ho, ht⟩ := o1'
  have hY : Own 3 w1 w0.heap.size Y d ys := H1.own j hj
  refine zih_ u35 zgf_ rfl (by decide) hr1 (Row.src (hr _ (Nat.le_refl _))) rfl (by intro v hv; simp at hv; subst hv; rfl) (by omega) (by omega) H1.gr.size fun X' c' w' hr' hg hmv => ?_
  rw [show ls.length + 1 = (ls ++ [ys]).length from by simp]
  refine h _ X' c' w' (fun i => if i = ls.length then (Y, d) else ps i) (H1.join hij hi hj (gx_of hg fun q hq => .inl (.inl hq)) (fun q hq => ?_) (fun q hq => ?_) ?_)
  · rcases hq with hq | ⟨l, hl, hq⟩
    · rcases hmv with e | e
      · exact .inl (.inl (e ▸ hq))
      · exact .inr (.inr (e q hq))
    · rw [List.length_append] at hl
      simp only [List.length_cons, List.length_nil] at hl
      by_cases h1 : l = ls.length
      · subst h1
        simp only [if_true] at hq
        exact .inr (.inl hq)
      · simp only [h1, if_false] at hq
        exact .inl (.inr ⟨l, by omega, hq⟩)
  · have := (o1.push hY (fun l hl => by
      cases hq : blk (ps l).1 with
      | none => exact .inl rfl
      | some q => exact .inr fun e => H1.two i j _ _ hij hi hj q (.inr ⟨l, hl, hq⟩) (show blk Y = some q from e.symm)) (by decide) hr1 hc hr' hg)
    exact (this.foot hq).2
  · exact zdh_ (o1.push hY (fun l hl => by
      cases hq : blk (ps l).1 with
      | none => exact .inl rfl
      | some q => exact .inr fun e => H1.two i j _ _ hij hi hj q (.inr ⟨l, hl, hq⟩) (show blk Y = some q from e.symm)) (by decide) hr1 hc hr' hg)
theorem zpu_ (H : Apt w0 w L) (i j : Nat) (hij : i ≠ j) {u n c m d : Nat} {X Y : Option Addr} {ls ms : List (List Int)} {ps qs : Nat → Option Addr × Nat} (hi : L[i]? = some (lss X c ls ps)) (hj : L[j]? = some (lss Y d ms qs)) {cs : List Bool} (hn : n = ls.length) (hm : m = ms.length) (hb : ls.length + ms.length ≤ 1000000000)
    (h : ∀ X' c' w' ps', Apt w0 w' ((L.set i (lss X' c' (ls ++ ms) ps')).set j emp) → k (.slice X' (ls ++ ms).length c') w') : Do Try.prog (ze_ .append #[35, 35] u cs [.slice X n c, .slice Y m d]) k w := by
  subst hn hm
  have o1 := H.lssi i hi
  have o2 := H.lssi j hj
  obtain ⟨⟨cells, hr1, hc⟩, ho, ht⟩ := id o1
  obtain ⟨⟨news, hr2, hN⟩, ho2, ht2⟩ := id o2
  have hnl : news.length = ms.length := by have := hr2.len; omega
  refine zih_ u35 zgf_ rfl (by decide) hr1 (Row.src hr2) (by rw [hnl, Nat.mul_one]) (by
    intro v hv
    obtain ⟨l, hl⟩ := List.getElem?_of_mem hv
    have hlt : l < ms.length := by rw [← hnl]; exact (List.getElem?_eq_some_iff.1 hl).1
    rw [hN l hlt] at hl
    obtain rfl := Option.some.inj hl
    rfl) (by omega) (by omega) H.gr.size fun X' c' w' hr' hg hmv => ?_
  rw [← List.length_append]
  have hfin := o1.append o2 (fun l m hl hm => by
      cases hq : blk (ps l).1 with
      | none => exact .inl rfl
      | some q => exact .inr fun e => H.two i j _ _ hij hi hj q (.inr ⟨l, hl, hq⟩) (.inr ⟨m, hm, e.symm⟩)) (by decide) hr1 hc hnl hN hr' hg
  refine h X' c' w' _ (H.join hij hi hj (gx_of hg fun q hq => .inl (.inl hq)) (fun q hq => ?_) (fun q hq => (hfin.foot hq).2) (zdh_ hfin))
  rcases hq with hq | ⟨l, hl, hq⟩
  · rcases hmv with e | e
    · exact .inl (.inl (e ▸ hq))
    · exact .inr (.inr (e q hq))
  · rw [List.length_append] at hl
    by_cases h1 : l < ls.length
    · simp only [joinP, h1, if_true] at hq
      exact .inl (.inr ⟨l, h1, hq⟩)
    · simp only [joinP, h1, if_false] at hq
      exact .inr (.inl (.inr ⟨_, by omega, hq⟩))
theorem putSSH (H : Apt w0 w L) (i j : Nat) {m c : Nat} {X : Option Addr} {ls : List (List Int)} {ps : Nat → Option Addr × Nat} {x : Int} (hi : L[i]? = some (lss X c ls ps)) (hj : j < ls.length) (hm : m < (rgt ls j).length)
    (h : ∀ w', Apt w0 w' (L.set i (lss X c (ls.set j ((rgt ls j).set m x)) ps)) → k undef w') : Do Try.prog (zx_ 3 (.pointer (some ((ad (ps j).1).add m))) (.int .i64 x)) k w := by
  have o := H.lssi i hi
  refine zme_ sz3 rfl rfl (o.own j hj) (by omega) fun w' g hs hr => ?_
  have hr' : Row w' w0.heap.size 3 1 (ps j).1 (rgt ls j).length (ps j).2 (ints ((rgt ls j).set m x)) := by
    rw [show ints ((rgt ls j).set m x) = (ints (rgt ls j)).set m (.int .i64 x) from by simp [ints]]
    exact hr
  have o' := o.put (by decide) hj hr' g
  refine h w' (H.set hi (gx_of g fun q hq => .inr ⟨j, hj, hq⟩) (fun q hq => .inl ?_) (fun q hq => (o'.foot hq).2) (zdh_ o'))
  rcases hq with hq | ⟨l, hl, hq⟩
  · exact .inl hq
  · rw [List.length_set] at hl
    exact .inr ⟨l, hl, hq⟩
end
end Go.Proofs.Ytegcjkhebecgbaa

namespace Go.Sh
inductive PT where
  | mk (non : Int) (rule at_ fin fr to : Nat) (kids : List PT)
def PT.non : PT → Int | .mk n _ _ _ _ _ _ => n
def PT.rule : PT → Nat | .mk _ r _ _ _ _ _ => r
def PT.at_ : PT → Nat | .mk _ _ a _ _ _ _ => a
def PT.fin : PT → Nat | .mk _ _ _ e _ _ _ => e
def PT.fr : PT → Nat | .mk _ _ _ _ f _ _ => f
def PT.to : PT → Nat | .mk _ _ _ _ _ t _ => t
def PT.kids : PT → List PT | .mk _ _ _ _ _ _ k => k
def okT (rs : List RuleL) (tree : List Int) (non : Int) (a : Nat) : Bool :=
  decide (a < tree.length) && (decide (0 ≤ tree.getD a 0) && decide (tree.getD a 0 ≤ (rs.length : Int) - 1)) && decide ((rul rs (tree.getD a 0).toNat).1 = non)
def rgtT (rs : List RuleL) (tree : List Int) (a : Nat) : List Int := (rul rs (tree.getD a 0).toNat).2
def zxb_ (rec : Int → Nat → List Int → Option (PT × List Int)) : List Int → Nat → List Int → List PT → Option (List PT × Nat × List Int)
  | [], e, w, ks => some (ks, e, w)
  | x :: xs, e, w, ks => if x < 0 then zxb_ rec xs e (w ++ [-1 - x]) ks else match rec x e w with
    | none => none
    | some (k, w') => zxb_ rec xs k.fin w' (ks ++ [k])
def ztb_ (rs : List RuleL) (tree : List Int) : Nat → Int → Nat → List Int → Option (PT × List Int)
  | 0, _, _, _ => none
  | f + 1, non, a, w => if okT rs tree non a = true then match zxb_ (ztb_ rs tree f) (rgtT rs tree a) (a + 1) w [] with
      | none => none
      | some (ks, e, w') => some (.mk non (tree.getD a 0).toNat a e w.length w'.length ks, w')
    else none
def endR (rec : Int → Nat → Option Nat) : List Int → Nat → Option Nat
  | [], e => some e
  | x :: xs, e => if x < 0 then endR rec xs e else match rec x e with
    | none => none
    | some e' => endR rec xs e'
def endT (rs : List RuleL) (tree : List Int) : Nat → Int → Nat → Option Nat
  | 0, _, _ => none
  | f + 1, non, a => if okT rs tree non a = true then endR (endT rs tree f) (rgtT rs tree a) (a + 1) else none
theorem endR_eq {rec : Int → Nat → List Int → Option (PT × List Int)} {rec' : Int → Nat → Option Nat} (h : ∀ x a w, rec' x a = (rec x a w).map fun z => z.1.fin) : ∀ (xs : List Int) (e : Nat) (w : List Int) (ks : List PT), endR rec' xs e = (zxb_ rec xs e w ks).map fun z => z.2.1 := by
  intro xs
  induction xs with
  | nil => intro e w ks; rfl
  | cons x xs ih =>
    intro e w ks
    unfold endR zxb_
    by_cases hx : x < 0
    · rw [if_pos hx, if_pos hx]
      exact ih _ _ _
    · rw [if_neg hx, if_neg hx, h x e w]
      cases rec x e w with
      | none => rfl
      | some z => exact ih _ _ _
theorem endT_eq (rs : List RuleL) (tree : List Int) : ∀ (f : Nat) (non : Int) (a : Nat) (w : List Int), endT rs tree f non a = (ztb_ rs tree f non a w).map fun z => z.1.fin := by
  intro f
  induction f with
  | zero => intro non a w; rfl
  | succ f ih =>
    intro non a w
    unfold endT ztb_
    by_cases hk : okT rs tree non a = true
    · rw [if_pos hk, if_pos hk, endR_eq ih _ _ w []]
      cases zxb_ (ztb_ rs tree f) (rgtT rs tree a) (a + 1) w [] <;> rfl
    · rw [if_neg hk, if_neg hk]
      rfl
mutual
def PT.parts : PT → List PT
  | .mk n r a e f t ks => .mk n r a e f t ks :: PT.partsL ks
def PT.partsL : List PT → List PT
  | [] => []
  | k :: ks => k.parts ++ PT.partsL ks
end
theorem zcc_ (ks ls : List PT) : PT.partsL (ks ++ ls) = PT.partsL ks ++ PT.partsL ls := by
  induction ks with
  | nil => simp [PT.partsL]
  | cons k ks ih => simp [PT.partsL, ih]
theorem zkg_ (p : PT) : p.parts = p :: PT.partsL p.kids := by
  cases p
  simp [PT.parts, PT.kids]
def Laid (l : List PT) (a : Nat) : Prop := ∀ i, (h : i < l.length) → l[i].at_ = a + i ∧ l[i].fin ≤ a + l.length ∧ a + i < l[i].fin ∧ l[i].parts = (l.drop i).take (l[i].fin - (a + i))
theorem Laid.append {l m : List PT} {a : Nat} (h : Laid l a) (g : Laid m (a + l.length)) : Laid (l ++ m) a := by
  intro i hi
  by_cases hl : i < l.length
  · obtain ⟨h1, h2, h3, h4⟩ := h i hl
    rw [List.getElem_append_left hl]
    refine ⟨h1, by simp; omega, h3, ?_⟩
    rw [List.drop_append_of_le_length (by omega), List.take_append_of_le_length (by simp; omega)]
    exact h4
  · obtain ⟨d, rfl⟩ : ∃ d, i = l.length + d := ⟨i - l.length, by omega⟩
    have hm : d < m.length := by simp at hi; omega
    obtain ⟨h1, h2, h3, h4⟩ := g d hm
    have e : (l ++ m)[l.length + d] = m[d] := by
      rw [List.getElem_append_right (by omega)]
      simp
    rw [e]
    have hlen : (l ++ m).length = l.length + m.length := List.length_append
    refine ⟨?_, ?_, ?_, ?_⟩
    · omega
    · omega
    · omega
    · have e2 : (l ++ m).drop (l.length + d) = m.drop d := by
        rw [← List.drop_drop, List.drop_left]
      rw [h4, e2, Nat.add_assoc]
theorem readR_laid {rec : Int → Nat → List Int → Option (PT × List Int)} (h : ∀ x a w p w', rec x a w = some (p, w') → Laid p.parts a ∧ p.fin = a + p.parts.length ∧ p.at_ = a ∧ p.non = x ∧ p.fr = w.length ∧ p.to = w'.length ∧ w.length ≤ w'.length) :
    ∀ (xs : List Int) (e : Nat) (w : List Int) (ks : List PT) (a : Nat) {ks' : List PT} {e' : Nat} {w' : List Int}, Laid (PT.partsL ks) a → e = a + (PT.partsL ks).length → zxb_ rec xs e w ks = some (ks', e', w') → Laid (PT.partsL ks') a ∧ e' = a + (PT.partsL ks').length ∧ w.length ≤ w'.length := by
  intro xs
  induction xs with
  | nil =>
    intro e w ks a ks' e' w' hl he hr
    simp only [zxb_, Option.some.injEq, Prod.mk.injEq] at hr
    obtain ⟨rfl, rfl, rfl⟩ := hr
    exact ⟨hl, he, Nat.le_refl _⟩
  | cons x xs ih =>
    intro e w ks a ks' e' w' hl he hr
    unfold zxb_ at hr
    by_cases hx : x < 0
    · rw [if_pos hx] at hr
      obtain ⟨h1, h2, h3⟩ := ih _ _ _ _ hl he hr
      exact ⟨h1, h2, by simp at h3; omega⟩
    · rw [if_neg hx] at hr
      cases hz : rec x e w with
      | none => rw [hz] at hr; cases hr
      | some z =>
        obtain ⟨k, w1⟩ := z
        rw [hz] at hr
        obtain ⟨h1, h2, _, _, _, _, h3⟩ := h x e w k w1 hz
        have hl' : Laid (PT.partsL (ks ++ [k])) a := by
          rw [zcc_]
          refine hl.append ?_
          simp only [PT.partsL, List.append_nil]
          rw [← he]
          exact h1
        obtain ⟨g1, g2, g3⟩ := ih _ _ _ _ hl' (by rw [zcc_]; simp [PT.partsL]; omega) hr
        exact ⟨g1, g2, by omega⟩
theorem zdf_ (rs : List RuleL) (tree : List Int) : ∀ (f : Nat) (non : Int) (a : Nat) (w : List Int) (p : PT) (w' : List Int), ztb_ rs tree f non a w = some (p, w') → Laid p.parts a ∧ p.fin = a + p.parts.length ∧ p.at_ = a ∧ p.non = non ∧ p.fr = w.length ∧ p.to = w'.length ∧ w.length ≤ w'.length := by
  intro f
  induction f with
  | zero => intro non a w p w' h; cases h
  | succ f ih =>
    intro non a w p w' h
    unfold ztb_ at h
    by_cases hk : okT rs tree non a = true
    · rw [if_pos hk] at h
      cases hz : zxb_ (ztb_ rs tree f) (rgtT rs tree a) (a + 1) w [] with
      | none => rw [hz] at h; cases h
      | some z =>
        obtain ⟨ks, e, w1⟩ := z
        rw [hz] at h
        simp only [Option.some.injEq, Prod.mk.injEq] at h
        obtain ⟨rfl, rfl⟩ := h
        have h0 : Laid (PT.partsL []) (a + 1) := fun i hi => by simp [PT.partsL] at hi
        obtain ⟨h1, h2, h3⟩ := readR_laid ih _ _ _ _ (a + 1) h0 (by simp [PT.partsL]) hz
        refine ⟨?_, by simp [PT.parts, PT.fin]; omega, rfl, rfl, rfl, rfl, h3⟩
        rw [PT.parts]
        intro i hi
        cases i with
        | zero =>
          refine ⟨rfl, ?_, ?_, ?_⟩
          · simp [PT.fin]; omega
          · simp [PT.fin]; omega
          · simp only [List.getElem_cons_zero, PT.fin, List.drop_zero, PT.parts]
            rw [List.take_of_length_le]
            simp
            omega
        | succ i =>
          simp only [List.length_cons] at hi
          obtain ⟨g1, g2, g3, g4⟩ := h1 i (by omega)
          simp only [List.getElem_cons_succ, List.drop_succ_cons, List.length_cons]
          refine ⟨by rw [g1]; omega, by omega, by omega, ?_⟩
          rw [g4]
          congr 1
          omega
    · rw [if_neg hk] at h
      cases h
theorem endT_gt {rs : List RuleL} {tree : List Int} {f : Nat} {non : Int} {a e : Nat} (h : endT rs tree f non a = some e) : a < e := by
  rw [endT_eq rs tree f non a []] at h
  cases hz : ztb_ rs tree f non a [] with
  | none => rw [hz] at h; cases h
  | some z =>
    obtain ⟨p, w'⟩ := z
    rw [hz] at h
    obtain ⟨_, h2, _⟩ := zdf_ rs tree f non a [] p w' hz
    have : p.fin = e := by simpa using h
    rw [zkg_] at h2
    simp at h2
    omega
theorem endR_le {rec : Int → Nat → Option Nat} {n : Nat} (h : ∀ x e e', rec x e = some e' → e' ≤ n) : ∀ (xs : List Int) (e e' : Nat), e ≤ n → endR rec xs e = some e' → e' ≤ n := by
  intro xs
  induction xs with
  | nil =>
    intro e e' he hr
    simp only [endR, Option.some.injEq] at hr
    omega
  | cons x xs ih =>
    intro e e' he hr
    unfold endR at hr
    split at hr
    · exact ih e e' he hr
    · split at hr
      · cases hr
      · rename_i e1 hz
        exact ih e1 e' (h x e e1 hz) hr
theorem endT_le {rs : List RuleL} {tree : List Int} : ∀ {f : Nat} {non : Int} {a e : Nat}, endT rs tree f non a = some e → e ≤ tree.length := by
  intro f
  induction f with
  | zero => intro non a e h; cases h
  | succ f ih =>
    intro non a e h
    unfold endT at h
    split at h
    · rename_i hok
      simp only [okT, Bool.and_eq_true, decide_eq_true_eq] at hok
      exact endR_le (fun x e e' h => ih h) _ _ _ (by omega) h
    · cases h
theorem zpp_ {rs : List RuleL} {tree : List Int} {f : Nat} {non : Int} {a : Nat} {w w' : List Int} {p : PT} (h : ztb_ rs tree f non a w = some (p, w')) : p.fin ≤ tree.length := by
  have e := endT_eq rs tree f non a w
  rw [h] at e
  exact endT_le e
theorem zdi_ {rec : Int → Nat → List Int → Option (PT × List Int)} (h : ∀ x a w p w', rec x a w = some (p, w') → w.length ≤ w'.length ∧ w'.length ≤ w.length + 4 * p.parts.length) :
    ∀ (xs : List Int) (e : Nat) (w : List Int) (ks : List PT) {ks' : List PT} {e' : Nat} {w' : List Int}, zxb_ rec xs e w ks = some (ks', e', w') → w.length ≤ w'.length ∧ w'.length + 4 * (PT.partsL ks).length ≤ w.length + xs.length + 4 * (PT.partsL ks').length := by
  intro xs
  induction xs with
  | nil =>
    intro e w ks ks' e' w' hr
    simp only [zxb_, Option.some.injEq, Prod.mk.injEq] at hr
    obtain ⟨rfl, rfl, rfl⟩ := hr
    simp
  | cons x xs ih =>
    intro e w ks ks' e' w' hr
    unfold zxb_ at hr
    split at hr
    · have := ih _ _ _ hr
      simp at this ⊢
      omega
    · split at hr
      · cases hr
      · rename_i k w1 hz
        have h1 := h _ _ _ _ _ hz
        have h2 := ih _ _ _ hr
        rw [zcc_] at h2
        simp [PT.partsL] at h2 ⊢
        omega
theorem zbg_ {rs : List RuleL} {tree : List Int} (h4 : ∀ q, q < rs.length → (rul rs q).2.length ≤ 4) : ∀ (f : Nat) (non : Int) (a : Nat) (w : List Int) (p : PT) (w' : List Int), ztb_ rs tree f non a w = some (p, w') → w.length ≤ w'.length ∧ w'.length ≤ w.length + 4 * p.parts.length := by
  intro f
  induction f with
  | zero => intro non a w p w' h; cases h
  | succ f ih =>
    intro non a w p w' h
    unfold ztb_ at h
    split at h
    · rename_i hok
      split at h
      · cases h
      · rename_i ks e w1 hz
        simp only [Option.some.injEq, Prod.mk.injEq] at h
        obtain ⟨rfl, rfl⟩ := h
        have h1 := zdi_ ih _ _ _ _ hz
        have h5 : (rgtT rs tree a).length ≤ 4 := by
          simp only [okT, Bool.and_eq_true, decide_eq_true_eq] at hok
          exact h4 _ (by omega)
        simp only [PT.parts, List.length_cons, PT.partsL, List.length_nil] at h1 ⊢
        omega
    · cases h
theorem readR_grow {rec : Int → Nat → List Int → Option (PT × List Int)} : ∀ (xs : List Int) (e : Nat) (w : List Int) (ks : List PT) {ks' : List PT} {e' : Nat} {w' : List Int}, zxb_ rec xs e w ks = some (ks', e', w') → (PT.partsL ks).length ≤ (PT.partsL ks').length := by
  intro xs
  induction xs with
  | nil =>
    intro e w ks ks' e' w' hr
    simp only [zxb_, Option.some.injEq, Prod.mk.injEq] at hr
    obtain ⟨rfl, rfl, rfl⟩ := hr
    exact Nat.le_refl _
  | cons x xs ih =>
    intro e w ks ks' e' w' hr
    unfold zxb_ at hr
    split at hr
    · exact ih _ _ _ hr
    · split at hr
      · cases hr
      · have := ih _ _ _ hr
        rw [zcc_, List.length_append] at this
        omega
theorem zmr_ {rs : List RuleL} {tree : List Int} {f : Nat} {non : Int} {a : Nat} {w w' : List Int} {p : PT} (h : ztb_ rs tree (f + 1) non a w = some (p, w')) : ∃ (q : Nat) (ks : List PT) (e : Nat), a < tree.length ∧ tree.getD a 0 = q ∧ q < rs.length ∧ (rul rs q).1 = non ∧ zxb_ (ztb_ rs tree f) (rul rs q).2 (a + 1) w [] = some (ks, e, w') ∧ p = .mk non q a e w.length w'.length ks := by
  unfold ztb_ at h
  split at h
  · rename_i hok
    split at h
    · cases h
    · rename_i ks e w1 hz
      simp only [Option.some.injEq, Prod.mk.injEq] at h
      obtain ⟨rfl, rfl⟩ := h
      simp only [okT, Bool.and_eq_true, decide_eq_true_eq] at hok
      exact ⟨(tree.getD a 0).toNat, ks, e, hok.1.1, by omega, by omega, hok.2, hz, rfl⟩
  · cases h
theorem zru_ {rec : Int → Nat → List Int → Option (PT × List Int)} {x : Int} {xs : List Int} {e : Nat} {w : List Int} {ks : List PT} (hx : x < 0) : zxb_ rec (x :: xs) e w ks = zxb_ rec xs e (w ++ [-1 - x]) ks := by
  rw [zxb_, if_pos hx]
theorem readR_non {rec : Int → Nat → List Int → Option (PT × List Int)} {x : Int} {xs : List Int} {e : Nat} {w : List Int} {ks : List PT} {z : List PT × Nat × List Int} (hx : ¬ x < 0) (h : zxb_ rec (x :: xs) e w ks = some z) : ∃ k w1, rec x e w = some (k, w1) ∧ zxb_ rec xs k.fin w1 (ks ++ [k]) = some z := by
  rw [zxb_, if_neg hx] at h
  split at h
  · cases h
  · rename_i k w1 hz
    exact ⟨k, w1, hz, h⟩
theorem okT_eq {rs : List RuleL} {tree : List Int} {non : Int} {a : Nat} : okT rs tree non a = (decide (a < tree.length) && inB (tree.getD a 0) 0 ((rs.length : Int) - 1) && decide ((rul rs (tree.getD a 0).toNat).1 = non)) := rfl
theorem okT_lt {rs : List RuleL} {tree : List Int} {non : Int} {a : Nat} (h : ¬ a < tree.length) : okT rs tree non a = false := by
  rw [okT_eq, decide_eq_false h, Bool.false_and, Bool.false_and]
theorem okT_in {rs : List RuleL} {tree : List Int} {non : Int} {a : Nat} (h : inB (tree.getD a 0) 0 ((rs.length : Int) - 1) = false) : okT rs tree non a = false := by
  rw [okT_eq, h, Bool.and_false, Bool.false_and]
theorem okT_ne {rs : List RuleL} {tree : List Int} {non : Int} {a q : Nat} (hq : tree.getD a 0 = q) (h : ¬ (rul rs q).1 = non) : okT rs tree non a = false := by
  rw [okT_eq, hq, Int.toNat_natCast, decide_eq_false h, Bool.and_false]
theorem okT_of {rs : List RuleL} {tree : List Int} {non : Int} {a q : Nat} (h0 : a < tree.length) (h1 : inB (tree.getD a 0) 0 ((rs.length : Int) - 1) = true) (hq : tree.getD a 0 = q) (h : (rul rs q).1 = non) : okT rs tree non a = true := by
  rw [okT_eq, h1, hq, Int.toNat_natCast, decide_eq_true h, decide_eq_true h0]
  rfl
theorem endT_no {rs : List RuleL} {tree : List Int} {f : Nat} {non : Int} {a : Nat} (h : okT rs tree non a = false) : endT rs tree (f + 1) non a = none := by
  simp only [endT, h, Bool.false_eq_true, if_false]
theorem zrp_ {rs : List RuleL} {tree : List Int} {f : Nat} {non : Int} {a : Nat} {w : List Int} (h : okT rs tree non a = false) : ztb_ rs tree (f + 1) non a w = none := by
  simp only [ztb_, h, Bool.false_eq_true, if_false]
theorem readT_of {rs : List RuleL} {tree : List Int} {f q : Nat} {non : Int} {a : Nat} {w : List Int} (h : okT rs tree non a = true) (hq : tree.getD a 0 = q) : ztb_ rs tree (f + 1) non a w = match zxb_ (ztb_ rs tree f) (rul rs q).2 (a + 1) w [] with
    | none => none
    | some (ks, e, w') => some (.mk non q a e w.length w'.length ks, w') := by
  rw [ztb_, if_pos h, rgtT, hq, Int.toNat_natCast]
def PT.row (p : PT) : List Int := [p.non, p.fin, p.fr, p.to]
def zee_ (x y : PT) : Bool := decide (x.non = y.non) && (!decide (x.fr = y.fr) || !decide (x.to = y.to))
def noPT : PT := .mk 0 0 0 0 0 0 []
def ptn (l : List PT) (i : Nat) : PT := l.getD i noPT
theorem zxd_ {l : List PT} {i : Nat} (h : i < l.length) : ptn l i = l[i] := by simp [ptn, List.getD_eq_getElem?_getD, h]
def zvf_ (l : List PT) : Option (Nat × Nat) := (List.range l.length).findSome? fun p => (List.range' (p + 1) ((ptn l p).fin - (p + 1))).findSome? fun q => if zee_ (ptn l p) (ptn l q) = true then some (p, q) else none
theorem zpr_ {β : Type} {f : Nat → Option β} {b : β} {m : Nat} : ∀ (n a : Nat), a ≤ m → m < a + n → f m = some b → (∀ m', a ≤ m' → m' < m → f m' = none) → (List.range' a n).findSome? f = some b := by
  intro n
  induction n with
  | zero => intro a h1 h2; omega
  | succ n ih =>
    intro a h1 h2 h3 h4
    rw [List.range'_succ, List.findSome?_cons]
    by_cases e : a = m
    · subst e
      rw [h3]
    · rw [h4 a (Nat.le_refl _) (by omega)]
      exact ih (a + 1) (by omega) (by omega) h3 fun m' g1 g2 => h4 m' (by omega) g2
theorem zuk_ {β : Type} {f : Nat → Option β} : ∀ (n a : Nat), (∀ m', a ≤ m' → m' < a + n → f m' = none) → (List.range' a n).findSome? f = none := by
  intro n
  induction n with
  | zero => intro a h; rfl
  | succ n ih =>
    intro a h
    rw [List.range'_succ, List.findSome?_cons, h a (Nat.le_refl _) (by omega)]
    exact ih (a + 1) fun m' g1 g2 => h m' (by omega) (by omega)
def Dry (l : List PT) (p q : Nat) : Prop := ∀ q', p < q' → q' < q → zee_ (ptn l p) (ptn l q') = false
theorem zrr_ {l : List PT} {p q : Nat} (hp : p < l.length) (h1 : p < q) (h2 : q < (ptn l p).fin) (h : zee_ (ptn l p) (ptn l q) = true) (hd : Dry l p q) (hb : ∀ p', p' < p → Dry l p' (ptn l p').fin) : zvf_ l = some (p, q) := by
  unfold zvf_
  rw [List.range_eq_range']
  refine zpr_ _ 0 (Nat.zero_le p) (by omega) ?_ fun p' _ hp' => ?_
  · refine zpr_ _ (p + 1) h1 (by omega) (by rw [if_pos h]) fun q' g1 g2 => ?_
    rw [if_neg (by rw [hd q' g1 g2]; decide)]
  · refine zuk_ _ (p' + 1) fun q' g1 g2 => ?_
    rw [if_neg (by rw [hb p' hp' q' g1 (by omega)]; decide)]
theorem ztr_ {l : List PT} (hb : ∀ p', p' < l.length → Dry l p' (ptn l p').fin) : zvf_ l = none := by
  unfold zvf_
  rw [List.range_eq_range']
  refine zuk_ _ 0 fun p' _ hp' => ?_
  refine zuk_ _ (p' + 1) fun q' g1 g2 => ?_
  rw [if_neg (by rw [hb p' (by omega) q' g1 (by omega)]; decide)]
open Go
def Away (a b : Thing) : Prop := ∀ q, a.ft q → ¬ b.ft q
theorem Away.symm {a b : Thing} (h : Away a b) : Away b a := fun q hq hq' => h q hq' hq
theorem apt_pair {L : List Thing} : (∀ (i j : Nat) (a b : Thing), i ≠ j → L[i]? = some a → L[j]? = some b → Away a b) ↔ L.Pairwise Away := by
  induction L with
  | nil => exact ⟨fun _ => .nil, fun _ i j a b _ h => by simp at h⟩
  | cons x L ih =>
    constructor
    · intro h
      refine List.Pairwise.cons (fun y hy => ?_) (ih.1 fun i j a b hij ha hb => h (i + 1) (j + 1) a b (by omega) (by simpa using ha) (by simpa using hb))
      obtain ⟨j, hj⟩ := List.getElem?_of_mem hy
      exact h 0 (j + 1) x y (by omega) rfl (by simpa using hj)
    · intro h i j a b hij ha hb
      obtain ⟨h1, h2⟩ := List.pairwise_cons.1 h
      match i, j with
      | 0, 0 => exact absurd rfl hij
      | 0, j + 1 =>
        obtain rfl : x = a := by simpa using ha
        exact h1 b (List.mem_of_getElem? (by simpa using hb))
      | i + 1, 0 =>
        obtain rfl : x = b := by simpa using hb
        exact (h1 a (List.mem_of_getElem? (by simpa using ha))).symm
      | i + 1, j + 1 => exact ih.2 h2 i j a b (by omega) (by simpa using ha) (by simpa using hb)
theorem Apt.perm {w0 w : World} {L M : List Thing} (H : Apt w0 w L) (p : L.Perm M) : Apt w0 w M := by
  refine ⟨H.gr, fun i it hi => ?_, apt_pair.2 ?_⟩
  · obtain ⟨j, hj⟩ := List.getElem?_of_mem (p.symm.subset (List.mem_of_getElem? hi))
    exact H.ok j it hj
  · exact (p.pairwise_iff fun h => Away.symm h).1 (apt_pair.1 H.two)
theorem Apt.insert {w0 w : World} {L : List Thing} {x : Thing} (H : Apt w0 w (L ++ [x])) (n : Nat) : Apt w0 w (L.take n ++ x :: L.drop n) := by
  refine H.perm ?_
  have e : L ++ [x] = L.take n ++ (L.drop n ++ [x]) := by rw [← List.append_assoc, List.take_append_drop]
  rw [e]
  exact (List.perm_append_comm (l₁ := L.drop n) (l₂ := [x])).append_left _
theorem Apt.erase {w0 w : World} {L : List Thing} (H : Apt w0 w L) (n : Nat) : Apt w0 w (L.eraseIdx n) := by
  have h : ∀ (i : Nat) (a : Thing), (L.eraseIdx n)[i]? = some a → L[if i < n then i else i + 1]? = some a := fun i a ha => by
    rw [List.getElem?_eraseIdx] at ha
    split at ha
    · rename_i h; rw [if_pos h]; exact ha
    · rename_i h; rw [if_neg h]; exact ha
  refine H.pick (fun i => if i < n then i else i + 1) h fun i j _ _ e => ?_
  split at e <;> split at e <;> omega
theorem Apt.weaken {w0 w : World} {L : List Thing} (H : Apt w0 w L) (i : Nat) {a b : Thing} (hi : L[i]? = some a) (hf : ∀ q, b.ft q → a.ft q) (hp : ∀ w', (∀ q, a.ft q → w'.heap[q]? = w.heap[q]?) → a.P w' → b.P w') (hk : ∀ w' w'', (∀ q, b.ft q → w''.heap[q]? = w'.heap[q]?) → b.P w' → b.P w'') : Apt w0 w (L.set i b) :=
  H.set hi (Gx.refl _ w) (fun q hq => .inl (hf q hq)) (fun q hq => (H.ok i a hi).hi q (hf q hq)) fun w'' h => hk w w'' h (hp w (fun _ _ => rfl) (H.get i hi))
def both (a b : Thing) : Thing := ⟨fun w => a.P w ∧ b.P w, fun q => a.ft q ∨ b.ft q⟩
theorem Apt.both {w0 w : World} {L : List Thing} (H : Apt w0 w L) (i j : Nat) (hij : i ≠ j) {a b : Thing} (hi : L[i]? = some a) (hj : L[j]? = some b) : Apt w0 w (((L.set i (Sh.both a b)).set j emp).eraseIdx j) :=
  (H.join (it := Sh.both a b) hij hi hj (Gx.refl _ w) (fun q hq => hq.elim .inl fun h => .inr (.inl h)) (fun q hq => hq.elim ((H.ok i a hi).hi q) ((H.ok j b hj).hi q)) fun w'' h => ⟨(H.ok i a hi).kept w'' fun q hq => h q (.inl hq), (H.ok j b hj).kept w'' fun q hq => h q (.inr hq)⟩).erase j

abbrev ptrv (b : Nat) : Value := .pointer (some ⟨b, 0, none⟩)
mutual
def PartAt (F : Nat → Prop) (w : World) : PT → Nat → Prop
  | .mk non rule a e f t ks, b => F b ∧ ∃ X c, Box w b [.int .i64 non, .int .i64 rule, .int .i64 a, .int .i64 e, .int .i64 f, .int .i64 t, .slice X ks.length c] 156 ∧ (0 < ks.length → X = some (ad X) ∧ F (ad X).block) ∧ ks.length ≤ c ∧ KidsAt F w ks X 0
def KidsAt (F : Nat → Prop) (w : World) : List PT → Option Addr → Nat → Prop
  | [], _, _ => True
  | k :: ks, X, j => (∃ b, w.cell? ((ad X).add j) = some (ptrv b) ∧ PartAt F w k b) ∧ KidsAt F w ks X (j + 1)
end
mutual
theorem PartAt.gr {F : Nat → Prop} {w w' : World} (g : Gr w w') : (p : PT) → (b : Nat) → PartAt F w p b → PartAt F w' p b
  | .mk non rule a e f t ks, b, h => by
    simp only [PartAt] at h ⊢
    obtain ⟨hb, X, c, h1, h2, h3, h4⟩ := h
    exact ⟨hb, X, c, h1.gr g, h2, h3, KidsAt.gr g ks X 0 h4⟩
theorem KidsAt.gr {F : Nat → Prop} {w w' : World} (g : Gr w w') : (ks : List PT) → (X : Option Addr) → (j : Nat) → KidsAt F w ks X j → KidsAt F w' ks X j
  | [], X, j, _ => by simp only [KidsAt]
  | k :: ks, X, j, h => by
    simp only [KidsAt] at h ⊢
    obtain ⟨⟨b, h1, h2⟩, h3⟩ := h
    exact ⟨⟨b, g.cell h1, PartAt.gr g k b h2⟩, KidsAt.gr g ks X (j + 1) h3⟩
end
mutual
theorem PartAt.same {F : Nat → Prop} {w w' : World} (hs : ∀ q, F q → w'.heap[q]? = w.heap[q]?) : (p : PT) → (b : Nat) → PartAt F w p b → PartAt F w' p b
  | .mk non rule a e f t ks, b, h => by
    simp only [PartAt] at h ⊢
    obtain ⟨hb, X, c, h1, h2, h3, h4⟩ := h
    refine ⟨hb, X, c, (hs b hb).trans h1, h2, h3, ?_⟩
    cases ks with
    | nil => simp only [KidsAt]
    | cons k ks => exact KidsAt.same hs (k :: ks) X 0 (h2 (by simp)).2 h4
theorem KidsAt.same {F : Nat → Prop} {w w' : World} (hs : ∀ q, F q → w'.heap[q]? = w.heap[q]?) : (ks : List PT) → (X : Option Addr) → (j : Nat) → F (ad X).block → KidsAt F w ks X j → KidsAt F w' ks X j
  | [], X, j, _, _ => by simp only [KidsAt]
  | k :: ks, X, j, hX, h => by
    simp only [KidsAt] at h ⊢
    obtain ⟨⟨b, h1, h2⟩, h3⟩ := h
    refine ⟨⟨b, ?_, PartAt.same hs k b h2⟩, KidsAt.same hs ks X (j + 1) hX h3⟩
    rw [World.cell?_of_block (hs _ (by rw [zkc_]; exact hX))]
    exact h1
end
mutual
theorem PartAt.mono {F E : Nat → Prop} {w : World} (he : ∀ q, F q → E q) : (p : PT) → (b : Nat) → PartAt F w p b → PartAt E w p b
  | .mk non rule a e f t ks, b, h => by
    simp only [PartAt] at h ⊢
    obtain ⟨hb, X, c, h1, h2, h3, h4⟩ := h
    exact ⟨he _ hb, X, c, h1, fun hp => ⟨(h2 hp).1, he _ (h2 hp).2⟩, h3, KidsAt.mono he ks X 0 h4⟩
theorem KidsAt.mono {F E : Nat → Prop} {w : World} (he : ∀ q, F q → E q) : (ks : List PT) → (X : Option Addr) → (j : Nat) → KidsAt F w ks X j → KidsAt E w ks X j
  | [], X, j, _ => by simp only [KidsAt]
  | k :: ks, X, j, h => by
    simp only [KidsAt] at h ⊢
    obtain ⟨⟨b, h1, h2⟩, h3⟩ := h
    exact ⟨⟨b, h1, PartAt.mono he k b h2⟩, KidsAt.mono he ks X (j + 1) h3⟩
end
theorem KidsAt.get {F : Nat → Prop} {w : World} {X : Option Addr} : ∀ {ks : List PT} {j i : Nat}, KidsAt F w ks X j → i < ks.length → ∃ b, w.cell? ((ad X).add (j + i)) = some (ptrv b) ∧ PartAt F w (ptn ks i) b := by
  intro ks
  induction ks with
  | nil => intro j i _ h; simp at h
  | cons k ks ih =>
    intro j i h hi
    simp only [KidsAt] at h
    cases i with
    | zero => exact h.1
    | succ i =>
      obtain ⟨b, h1, h2⟩ := ih h.2 (by simpa using hi)
      exact ⟨b, by rw [show j + (i + 1) = j + 1 + i from by omega]; exact h1, by simpa [ptn] using h2⟩
theorem PartAt.box {F : Nat → Prop} {w : World} {p : PT} {b : Nat} (h : PartAt F w p b) : ∃ X c, Box w b [.int .i64 p.non, .int .i64 p.rule, .int .i64 p.at_, .int .i64 p.fin, .int .i64 p.fr, .int .i64 p.to, .slice X p.kids.length c] 156 ∧ (0 < p.kids.length → X = some (ad X)) ∧ p.kids.length ≤ c ∧ KidsAt F w p.kids X 0 := by
  cases p with
  | mk non rule a e f t ks =>
    simp only [PartAt] at h
    obtain ⟨_, X, c, h1, h2, h3, h4⟩ := h
    exact ⟨X, c, h1, fun hp => (h2 hp).1, h3, h4⟩
def AllPt (F : Nat → Prop) (w : World) (ps : List PT) (bs : List Nat) : Prop := bs.length = ps.length ∧ ∀ i, i < ps.length → PartAt F w (ptn ps i) (bs.getD i 0)
theorem AllPt.gr {F : Nat → Prop} {w w' : World} {ps : List PT} {bs : List Nat} (h : AllPt F w ps bs) (g : Gr w w') : AllPt F w' ps bs := ⟨h.1, fun i hi => PartAt.gr g _ _ (h.2 i hi)⟩
theorem PartAt.across {F : Nat → Prop} {w w1 w2 : World} {p : PT} {b : Nat} (h : PartAt F w1 p b) (hF : ∀ q, F q → q < w.heap.size) (g1 : Gr w w1) (g2 : Gr w w2) : PartAt F w2 p b :=
  PartAt.same (fun q hq => (g2.block q (hF q hq) (by simp)).trans (g1.block q (hF q hq) (by simp)).symm) p b h
theorem AllPt.across {F : Nat → Prop} {w w1 w2 : World} {ps : List PT} {bs : List Nat} (h : AllPt F w1 ps bs) (hF : ∀ q, F q → q < w.heap.size) (g1 : Gr w w1) (g2 : Gr w w2) : AllPt F w2 ps bs :=
  ⟨h.1, fun i hi => (h.2 i hi).across hF g1 g2⟩
theorem AllPt.append {F : Nat → Prop} {w : World} {ps qs : List PT} {bs cs : List Nat} (h : AllPt F w ps bs) (g : AllPt F w qs cs) : AllPt F w (ps ++ qs) (bs ++ cs) := by
  refine ⟨by simp [h.1, g.1], fun i hi => ?_⟩
  by_cases hl : i < ps.length
  · have := h.2 i hl
    have hb := h.1
    simpa [ptn, List.getD_eq_getElem?_getD, List.getElem?_append_left hl, List.getElem?_append_left (show i < bs.length by omega)] using this
  · rw [List.length_append] at hi
    have := g.2 (i - ps.length) (by omega)
    have hb := h.1
    rw [show ptn (ps ++ qs) i = ptn qs (i - ps.length) from by simp [ptn, List.getD_eq_getElem?_getD, List.getElem?_append_right (show ps.length ≤ i by omega)]]
    rw [show (bs ++ cs).getD i 0 = cs.getD (i - ps.length) 0 from by simp [List.getD_eq_getElem?_getD, List.getElem?_append_right (show bs.length ≤ i by omega), hb]]
    exact this
theorem AllPt.one {F : Nat → Prop} {w : World} {p : PT} {b : Nat} (h : PartAt F w p b) : AllPt F w [p] [b] := ⟨rfl, fun i hi => by
  obtain rfl : i = 0 := by simpa using hi
  exact h⟩

def sizesOK (P : Program) : List Field → List (Nat × Nat) → Prop
  | [], [] => True
  | f :: fs, p :: ps => (f.offset = p.1 ∧ szOf P f.type p.2) ∧ sizesOK P fs ps
  | _, _ => False
theorem run_places {P : Program} (w : World) : ∀ (fs : List Field) (ps : List (Nat × Nat)), sizesOK P fs ps → (fs.mapM (m := Sem) fun f => do pure (f.offset, ← sizeOf f.type)).run P w = .ok ps w := by
  intro fs
  induction fs with
  | nil =>
    intro ps h
    cases ps with
    | nil => rfl
    | cons p ps => exact h.elim
  | cons f fs ih =>
    intro ps h
    cases ps with
    | nil => exact h.elim
    | cons p ps =>
      obtain ⟨⟨h1, h2⟩, h3⟩ := h
      rw [List.mapM_cons]
      simp only [Sem.run_bind, zgd_ h2, Result.andThen, Sem.run_pure, ih ps h3, h1]
theorem zvk_ {P : Program} {S : WS} {k : Value → Prop} {t sz by' : Nat} {z : Value} {fs : Array Field} {ps : List (Nat × Nat)} {qs : List (Nat × Value)} {cells : Array Value} (ht : P.underlying t = some (.struct fs)) (H : Inf P t z sz by') (hs : sizesOK P fs.toList ps) (hf : Instr.fill (ps.toArray[·]?) z.cells qs = some cells) : Rd P S (zeb_ t qs) k = k (.agg cells) := zgc_ fun w _ => by
  obtain ⟨i, hi, hz, _, _⟩ := H
  have e0 : (zeroValue t).run P w = .ok z w := by simp [zeroValue, zrh_ hi, hz]
  have e1 : (fs.mapM (m := Sem) fun f => do pure (f.offset, ← sizeOf f.type)).run P w = .ok ps.toArray w := by
    rw [Array.mapM_eq_mapM_toList, Sem.run_map, run_places w fs.toList ps hs]
    rfl
  simp only [zeb_, Instr.build, Sem.run_bind, e0, Result.andThen, run_underlying ht, e1, hf]
  rfl
end Go.Sh
namespace Go.Proofs.Ytegcjkhebecgbaa
open Go Go.Sh
theorem inf156' : Inf Try.prog 156 (.agg #[.int .i64 0, .int .i64 0, .int .i64 0, .int .i64 0, .int .i64 0, .int .i64 0, .slice none 0 0]) 7 72 := zkf_ (by kernel_rfl)
theorem bd156 {S : WS} {k : Value → Prop} {qs : List (Nat × Value)} {cells : Array Value} (hf : Instr.fill (#[(0, 1), (1, 1), (2, 1), (3, 1), (4, 1), (5, 1), (6, 1)][·]?) #[.int .i64 0, .int .i64 0, .int .i64 0, .int .i64 0, .int .i64 0, .int .i64 0, .slice none 0 0] qs = some cells) : Rd Try.prog S (zeb_ 156 qs) k = k (.agg cells) :=
  zvk_ (ps := [(0, 1), (1, 1), (2, 1), (3, 1), (4, 1), (5, 1), (6, 1)]) Try.underlying156 inf156' ⟨⟨rfl, sz3⟩, ⟨rfl, sz3⟩, ⟨rfl, sz3⟩, ⟨rfl, sz3⟩, ⟨rfl, sz3⟩, ⟨rfl, sz3⟩, ⟨rfl, sz154⟩, trivial⟩ hf
end Go.Proofs.Ytegcjkhebecgbaa

namespace Go.Sh
open Go
def vls (ls : List (List Value)) (j : Nat) : List Value := ls.getD j []
theorem vls_eq {ls : List (List Value)} {j : Nat} (h : j < ls.length) : vls ls j = ls[j] := by simp [vls, List.getD_eq_getElem?_getD, h]
theorem zeh_ {ls : List (List Value)} {i j : Nat} {l : List Value} (hi : i < ls.length) : vls (ls.set i l) j = if j = i then l else vls ls j := by
  simp only [vls, List.getD_eq_getElem?_getD, List.getElem?_set]
  by_cases hij : i = j
  · subst hij
    simp [hi]
  · rw [if_neg hij, if_neg (fun e => hij e.symm)]
structure OwnV (e1 e2 : Nat) (w : World) (B : Nat) (X : Option Addr) (c : Nat) (ls : List (List Value)) (ps : Nat → Option Addr × Nat) : Prop where
  row : ∃ cells, Row w B e1 1 X ls.length c cells ∧ ∀ j, j < ls.length → cells[j]? = some (.slice (ps j).1 (vls ls j).length (ps j).2)
  own : ∀ j, j < ls.length → Row w B e2 1 (ps j).1 (vls ls j).length (ps j).2 (vls ls j)
  two : ∀ i j, i < ls.length → j < ls.length → i ≠ j → blk (ps i).1 = none ∨ blk (ps i).1 ≠ blk (ps j).1
section
variable {e1 e2 : Nat} {w w' : World} {B B' : Nat} {X : Option Addr} {c : Nat} {ls : List (List Value)} {ps : Nat → Option Addr × Nat}
theorem OwnV.same (h : OwnV e1 e2 w B X c ls ps) (hs : ∀ q, Foot X ps ls.length q → w'.heap[q]? = w.heap[q]?) : OwnV e1 e2 w' B X c ls ps := by
  obtain ⟨⟨cells, hr, hc⟩, ho, ht⟩ := h
  exact ⟨⟨cells, hr.same fun q hq => hs q (.inl hq), hc⟩, fun j hj => Row.same (ho j hj) fun q hq => hs q (.inr ⟨j, hj, hq⟩), ht⟩
theorem OwnV.up (h : OwnV e1 e2 w B X c ls ps) (hs : ∀ q, Foot X ps ls.length q → B' ≤ q) : OwnV e1 e2 w B' X c ls ps := by
  obtain ⟨⟨cells, hr, hc⟩, ho, ht⟩ := h
  exact ⟨⟨cells, hr.up fun q hq => hs q (.inl hq), hc⟩, fun j hj => Row.up (ho j hj) fun q hq => hs q (.inr ⟨j, hj, hq⟩), ht⟩
theorem OwnV.mono (h : OwnV e1 e2 w B X c ls ps) (hb : B' ≤ B) : OwnV e1 e2 w B' X c ls ps := by
  obtain ⟨⟨cells, hr, hc⟩, ho, ht⟩ := h
  exact ⟨⟨cells, Row.mono hr hb, hc⟩, fun j hj => Row.mono (ho j hj) hb, ht⟩
theorem OwnV.foot (h : OwnV e1 e2 w B X c ls ps) {q : Nat} (hq : Foot X ps ls.length q) : B ≤ q ∧ q < w.heap.size := by
  obtain ⟨⟨cells, hr, hc⟩, ho, ht⟩ := h
  rcases hq with hq | ⟨l, hl, hq⟩
  · exact hr.ge hq
  · exact Row.ge (ho l hl) hq
theorem OwnV.ptr (h : OwnV e1 e2 w B X c ls ps) (hl : 0 < ls.length) : X = some (ad X) := by
  obtain ⟨⟨cells, hr, hc⟩, _⟩ := h
  exact hr.ptr hl
theorem OwnV.cell (h : OwnV e1 e2 w B X c ls ps) {j : Nat} (hj : j < ls.length) : w.cell? ((ad X).add j) = some (.slice (ps j).1 (vls ls j).length (ps j).2) := by
  obtain ⟨⟨cells, hr, hc⟩, _⟩ := h
  exact hr.src.cell _ _ (hc j hj)
theorem OwnV.put {i m : Nat} {v : Value} (h : OwnV e1 e2 w B X c ls ps) (he : e1 ≠ e2) (hi : i < ls.length) (hr : Row w' B e2 1 (ps i).1 (vls ls i).length (ps i).2 ((vls ls i).set m v)) (g : w.grownBy w' (blk (ps i).1)) : OwnV e1 e2 w' B X c (ls.set i ((vls ls i).set m v)) ps := by
  obtain ⟨⟨cells, hr0, hc⟩, ho, ht⟩ := h
  refine ⟨⟨cells, by rw [List.length_set]; exact Row.kept hr0 g (ztg_ hr0 (ho i hi) he), fun j hj => ?_⟩, fun j hj => ?_, fun a b ha hb hab => ?_⟩
  · rw [List.length_set] at hj
    rw [hc j hj, zeh_ hi]
    by_cases hij : j = i
    · subst hij
      rw [if_pos rfl, List.length_set]
    · rw [if_neg hij]
  · rw [List.length_set] at hj
    rw [zeh_ hi]
    by_cases hij : j = i
    · subst hij
      rw [if_pos rfl, List.length_set]
      exact hr
    · rw [if_neg hij]
      exact Row.kept (ho j hj) g (ht j i hj hi hij)
  · rw [List.length_set] at ha hb
    exact ht a b ha hb hab
theorem OwnV.setRow {i d B2 : Nat} {Y : Option Addr} {l cells : List Value} (h : OwnV e1 e2 w B X c ls ps) (he : e1 ≠ e2) (hi : i < ls.length) (ho : Row w B2 e2 1 Y l.length d l) (hne : ∀ j, j < ls.length → blk (ps j).1 = none ∨ blk (ps j).1 ≠ blk Y)
    (hr0 : Row w B e1 1 X ls.length c cells) (hc : ∀ j, j < ls.length → cells[j]? = some (.slice (ps j).1 (vls ls j).length (ps j).2)) (hr : Row w' B e1 1 X ls.length c (cells.set i (.slice Y l.length d))) (g : w.grownBy w' (blk X)) : OwnV e1 e2 w' 0 X c (ls.set i l) (fun j => if j = i then (Y, d) else ps j) := by
  have hlen := hr0.len
  refine ⟨⟨_, by rw [List.length_set]; exact Row.mono hr (Nat.zero_le _), fun j hj => ?_⟩, fun j hj => ?_, fun a b ha hb hab => ?_⟩
  · rw [List.length_set] at hj
    rw [zeh_ hi]
    by_cases hij : j = i
    · subst hij
      simp only [if_true]
      rw [List.getElem?_set_self (by omega)]
    · simp only [hij, if_false]
      rw [List.getElem?_set_ne (fun e => hij e.symm)]
      exact hc j hj
  · rw [List.length_set] at hj
    rw [zeh_ hi]
    by_cases hij : j = i
    · subst hij
      simp only [if_true]
      exact Row.mono (Row.kept ho g (ztg_ ho hr0 fun e => he e.symm)) (Nat.zero_le _)
    · simp only [hij, if_false]
      exact Row.mono (Row.kept (h.own j hj) g (ztg_ (h.own j hj) hr0 fun e => he e.symm)) (Nat.zero_le _)
  · rw [List.length_set] at ha hb
    by_cases hai : a = i <;> by_cases hbi : b = i
    · omega
    · simp only [hai, hbi, if_true, if_false]
      exact zpm_ (hne b hb)
    · simp only [hai, hbi, if_true, if_false]
      exact hne a ha
    · simp only [hai, hbi, if_false]
      exact h.two a b ha hb hab
end
def vvi (e1 e2 : Nat) (X : Option Addr) (c : Nat) (ls : List (List Value)) (ps : Nat → Option Addr × Nat) : Thing := ⟨fun w => OwnV e1 e2 w 0 X c ls ps, Foot X ps ls.length⟩
theorem ztp_ {w : World} {B e1 e2 c : Nat} {X : Option Addr} {ls : List (List Value)} {ps : Nat → Option Addr × Nat} (h : OwnV e1 e2 w B X c ls ps) : ∀ w', (∀ q, (vvi e1 e2 X c ls ps).ft q → w'.heap[q]? = w.heap[q]?) → (vvi e1 e2 X c ls ps).P w' := fun w' hq => (h.mono (Nat.zero_le B)).same hq
theorem Apt.vv {w0 w : World} {L : List Thing} (H : Apt w0 w L) (i : Nat) {e1 e2 c : Nat} {X : Option Addr} {ls : List (List Value)} {ps : Nat → Option Addr × Nat} (hi : L[i]? = some (vvi e1 e2 X c ls ps)) : OwnV e1 e2 w w0.heap.size X c ls ps := OwnV.up (H.get i hi) (H.ok i _ hi).lo
theorem Apt.nilVV {w0 w : World} {L : List Thing} (H : Apt w0 w L) (i : Nat) {e1 c n : Nat} (e2 : Nat) {X : Option Addr} (hi : L[i]? = some (rwi e1 1 X n c (List.replicate n (.slice none 0 0)))) : Apt w0 w (L.set i (vvi e1 e2 X c (List.replicate n []) fun _ => (none, 0))) := by
  have hr := H.row i hi
  have hv : ∀ j, vls (List.replicate n []) j = [] := fun j => by
    simp only [vls, List.getD_eq_getElem?_getD, List.getElem?_replicate]
    split <;> rfl
  have o : OwnV e1 e2 w w0.heap.size X c (List.replicate n []) fun _ => (none, 0) := by
    refine ⟨⟨_, by rw [List.length_replicate]; exact hr, fun j hj => ?_⟩, fun j hj => ?_, fun i j hi hj hij => .inl rfl⟩
    · rw [List.length_replicate] at hj
      rw [hv]
      simp [hj]
    · rw [hv]
      exact Row.nil _ _ _ _
  refine H.set hi (Gx.refl _ w) (fun q hq => ?_) (fun q hq => (o.foot hq).2) (ztp_ o)
  rcases hq with hq | ⟨l, hl, hq⟩
  · exact .inl hq
  · cases hq
section
variable {P : Program} {k : Value → World → Prop} {w0 w : World} {L : List Thing}
theorem storeVV (H : Apt w0 w L) (i j : Nat) {t e1 e2 m c : Nat} {X : Option Addr} {ls : List (List Value)} {ps : Nat → Option Addr × Nat} {v : Value} (hi : L[i]? = some (vvi e1 e2 X c ls ps)) (he : e1 ≠ e2) (hs : szOf P t 1) (hv : v.cells.toList = [v]) (h1 : v.oneCell' = true) (hj : j < ls.length) (hm : m < (vls ls j).length)
    (h : ∀ w', Apt w0 w' (L.set i (vvi e1 e2 X c (ls.set j ((vls ls j).set m v)) ps)) → k undef w') : Do P (zx_ t (.pointer (some ((ad (ps j).1).add m))) v) k w := by
  have o := H.vv i hi
  refine zme_ hs hv h1 (o.own j hj) (by omega) fun w' g hsz hr => ?_
  have o' := o.put he hj hr g
  refine h w' (H.set hi (gx_of g fun q hq => .inr ⟨j, hj, hq⟩) (fun q hq => .inl ?_) (fun q hq => (o'.foot hq).2) (ztp_ o'))
  rcases hq with hq | ⟨l, hl, hq⟩
  · exact .inl hq
  · rw [List.length_set] at hl
    exact .inr ⟨l, hl, hq⟩
theorem setRowVV (H : Apt w0 w L) (i j x : Nat) (hij : i ≠ j) {t e1 e2 c d n : Nat} {X Y : Option Addr} {ls : List (List Value)} {l : List Value} {ps : Nat → Option Addr × Nat} (hi : L[i]? = some (vvi e1 e2 X c ls ps)) (hj : L[j]? = some (rwi e2 1 Y n d l)) (hn : n = l.length) (he : e1 ≠ e2) (hs : szOf P t 1) (hx : x < ls.length)
    (h : ∀ w' ps', Apt w0 w' ((L.set i (vvi e1 e2 X c (ls.set x l) ps')).set j emp) → k undef w') : Do P (zx_ t (.pointer (some ((ad X).add x))) (.slice Y n d)) k w := by
  subst hn
  have o := H.vv i hi
  obtain ⟨⟨cells, hr0, hc⟩, _⟩ := id o
  refine zme_ hs rfl rfl hr0 (by omega) fun w' g hsz hr => ?_
  have o' := o.setRow he hx (H.row j hj) (fun m hm => by
    cases hq : blk (ps m).1 with
    | none => exact .inl rfl
    | some q => exact .inr fun e => H.two i j _ _ hij hi hj q (.inr ⟨m, hm, hq⟩) (show blk Y = some q from e.symm)) hr0 hc hr g
  refine h w' _ (H.join hij hi hj (gx_of g fun q hq => .inl (.inl hq)) (fun q hq => ?_) (fun q hq => (o'.foot hq).2) (ztp_ o'))
  rcases hq with hq | ⟨m, hm, hq⟩
  · exact .inl (.inl hq)
  · rw [List.length_set] at hm
    by_cases e : m = x
    · simp only [e, if_true] at hq
      exact .inr (.inl hq)
    · simp only [e, if_false] at hq
      exact .inl (.inr ⟨m, hm, hq⟩)
end
end Go.Sh

namespace Go.Sh
abbrev Tab := Nat → Nat → Nat → Bool
def Tab.put (T : Tab) (x i j : Nat) : Tab := fun a b c => if a = x ∧ b = i ∧ c = j then true else T a b c
def symT (T : Tab) (w : List Int) (x : Int) (i j : Nat) : Bool := if x < 0 then decide (j = i + 1) && decide (w.getD i 0 = -1 - x) else T x.toNat i j
def zbd_ (T : Tab) (w : List Int) : List Int → Nat → Nat → Bool
  | [], i, j => decide (i = j)
  | x :: xs, i, j => (List.range' i (j + 1 - i)).any fun m => symT T w x i m && zbd_ T w xs m j
theorem zup_ {T : Tab} {w : List Int} {x : Int} {xs : List Int} {i j : Nat} (hx : x < 0) : zbd_ T w (x :: xs) i j = (decide (i < j) && (decide (w.getD i 0 = -1 - x) && zbd_ T w xs (i + 1) j)) := by
  rw [Bool.eq_iff_iff]
  simp only [zbd_, symT, hx, if_true, List.any_eq_true, List.mem_range'_1, Bool.and_eq_true, decide_eq_true_eq]
  constructor
  · rintro ⟨m, ⟨h1, h2⟩, ⟨rfl, h4⟩, h5⟩
    exact ⟨by omega, h4, h5⟩
  · rintro ⟨h1, h2, h3⟩
    exact ⟨i + 1, ⟨by omega, by omega⟩, ⟨rfl, h2⟩, h3⟩
theorem zvp_ {T : Tab} {w : List Int} {x : Int} {xs : List Int} {i j : Nat} (hx : ¬ x < 0) : zbd_ T w (x :: xs) i j = (List.range' i (j + 1 - i)).any fun m => T x.toNat i m && zbd_ T w xs m j := by
  simp only [zbd_, symT, hx, if_false]
theorem any_upto {p : Nat → Bool} {i j : Nat} (h : ∀ m, i ≤ m → m ≤ j → p m = false) : (List.range' i (j + 1 - i)).any p = false := by
  rw [List.any_eq_false]
  intro m hm
  rw [List.mem_range'_1] at hm
  rw [h m hm.1 (by omega)]
  decide
theorem any_at {p : Nat → Bool} {i j m : Nat} (h1 : i ≤ m) (h2 : m ≤ j) (h : p m = true) : (List.range' i (j + 1 - i)).any p = true := by
  rw [List.any_eq_true]
  exact ⟨m, List.mem_range'_1.2 ⟨h1, by omega⟩, h⟩

abbrev TS := Tab × Bool
def stepT (w : List Int) (r : Int × List Int) (i : Nat) (s : TS) (j : Nat) : TS := if !s.1 r.1.toNat i j && zbd_ s.1 w r.2 i j then (s.1.put r.1.toNat i j, true) else s
def rowT (w : List Int) (r : Int × List Int) (s : TS) (i : Nat) : TS := (List.range' i (w.length + 1 - i)).foldl (stepT w r i) s
def ruleT (w : List Int) (s : TS) (r : Int × List Int) : TS := (List.range (w.length + 1)).foldl (rowT w r) s
def zeg_ (rs : List (Int × List Int)) (w : List Int) (s : TS) : TS := rs.foldl (ruleT w) s
def cellT (T : Tab) (p : Nat) : Bool := T (p / 121) (p / 11 % 11) (p % 11)
def openT (T : Tab) : Nat := (List.range 726).countP fun p => !cellT T p
theorem count_le {α : Type} {p q : α → Bool} {l : List α} (h : ∀ a ∈ l, p a = true → q a = true) : l.countP p ≤ l.countP q := List.countP_mono_left h
theorem count_lt {α : Type} {p q : α → Bool} {l : List α} (h : ∀ a ∈ l, p a = true → q a = true) {b : α} (hb : b ∈ l) (hq : q b = true) (hp : p b = false) : l.countP p < l.countP q := by
  induction l with
  | nil => cases hb
  | cons a l ih =>
    have ht : ∀ a ∈ l, p a = true → q a = true := fun x hx => h x (List.mem_cons_of_mem _ hx)
    rw [List.countP_cons, List.countP_cons]
    rcases List.mem_cons.1 hb with rfl | hb
    · have := count_le ht
      rw [hp, hq]
      simp
      omega
    · have := ih ht hb
      have ha := h a (List.mem_cons_self ..)
      by_cases hpa : p a = true
      · rw [if_pos hpa, if_pos (ha hpa)]
        omega
      · rw [if_neg hpa]
        split <;> omega
theorem open_put {T : Tab} {x i j : Nat} (hx : x < 6) (hi : i < 11) (hj : j < 11) (h : T x i j = false) : openT (T.put x i j) < openT T := by
  unfold openT
  refine count_lt (b := x * 121 + i * 11 + j) (fun p hp hh => ?_) (List.mem_range.2 (by omega)) ?_ ?_
  · simp only [cellT, Tab.put, Bool.not_eq_true'] at hh ⊢
    split at hh
    · cases hh
    · exact hh
  · have e1 : (x * 121 + i * 11 + j) / 121 = x := by omega
    have e2 : (x * 121 + i * 11 + j) / 11 % 11 = i := by omega
    have e3 : (x * 121 + i * 11 + j) % 11 = j := by omega
    simp [cellT, e1, e2, e3, h]
  · have e1 : (x * 121 + i * 11 + j) / 121 = x := by omega
    have e2 : (x * 121 + i * 11 + j) / 11 % 11 = i := by omega
    have e3 : (x * 121 + i * 11 + j) % 11 = j := by omega
    simp [cellT, Tab.put, e1, e2, e3]
def Inc (s s' : TS) : Prop := s' = s ∨ (s'.2 = true ∧ openT s'.1 < openT s.1)
theorem Inc.refl (s : TS) : Inc s s := .inl rfl
theorem Inc.trans {a b c : TS} (h : Inc a b) (g : Inc b c) : Inc a c := by
  rcases h with rfl | ⟨h1, h2⟩
  · exact g
  · rcases g with rfl | ⟨g1, g2⟩
    · exact .inr ⟨h1, h2⟩
    · exact .inr ⟨g1, by omega⟩
theorem Inc.fold {α : Type} {f : TS → α → TS} {l : List α} (h : ∀ a ∈ l, ∀ s, Inc s (f s a)) : ∀ s, Inc s (l.foldl f s) := by
  induction l with
  | nil => exact fun s => Inc.refl s
  | cons a l ih =>
    intro s
    exact (h a (List.mem_cons_self ..) s).trans (ih (fun b hb => h b (List.mem_cons_of_mem _ hb)) _)
theorem ztu_ {w : List Int} {r : Int × List Int} {i j : Nat} {s : TS} (hr : r.1.toNat < 6) (hi : i < 11) (hj : j < 11) : Inc s (stepT w r i s j) := by
  unfold stepT
  split
  · rename_i h
    simp only [Bool.and_eq_true, Bool.not_eq_true'] at h
    exact .inr ⟨rfl, open_put hr hi hj h.1⟩
  · exact .inl rfl
theorem rowT_inc {w : List Int} {r : Int × List Int} {i : Nat} (hr : r.1.toNat < 6) (hw : w.length ≤ 10) (hi : i < 11) (s : TS) : Inc s (rowT w r s i) :=
  Inc.fold (fun j hj s => by
    rw [List.mem_range'_1] at hj
    exact ztu_ hr hi (by omega)) s
theorem zuu_ {w : List Int} {r : Int × List Int} (hr : r.1.toNat < 6) (hw : w.length ≤ 10) (s : TS) : Inc s (ruleT w s r) :=
  Inc.fold (fun i hi s => rowT_inc hr hw (by have := List.mem_range.1 hi; omega) s) s
theorem zhi_ {rs : List (Int × List Int)} {w : List Int} (hr : ∀ r ∈ rs, r.1.toNat < 6) (hw : w.length ≤ 10) (s : TS) : Inc s (zeg_ rs w s) :=
  Inc.fold (fun r h s => zuu_ (hr r h) hw s) s
inductive Span (rs : List (Int × List Int)) (w : List Int) : Tab → Tab → Prop
  | done {T : Tab} : (zeg_ rs w (T, false)).2 = false → Span rs w T (zeg_ rs w (T, false)).1
  | more {T U : Tab} : (zeg_ rs w (T, false)).2 = true → Span rs w (zeg_ rs w (T, false)).1 U → Span rs w T U
theorem Span.det {rs : List (Int × List Int)} {w : List Int} {T U V : Tab} (h : Span rs w T U) (g : Span rs w T V) : U = V := by
  induction h with
  | done h1 =>
    cases g with
    | done g1 => rfl
    | more g1 g2 => rw [h1] at g1; cases g1
  | more h1 h2 ih =>
    cases g with
    | done g1 => rw [h1] at g1; cases g1
    | more g1 g2 => exact ih g2
theorem Span.ex {rs : List (Int × List Int)} {w : List Int} (hr : ∀ r ∈ rs, r.1.toNat < 6) (hw : w.length ≤ 10) : ∀ (n : Nat) (T : Tab), openT T ≤ n → ∃ U, Span rs w T U := by
  intro n
  induction n with
  | zero =>
    intro T hT
    rcases zhi_ hr hw (T, false) with h | ⟨_, h⟩
    · exact ⟨_, .done (by rw [h])⟩
    · exact absurd h (by simp at hT ⊢; omega)
  | succ n ih =>
    intro T hT
    rcases zhi_ hr hw (T, false) with h | ⟨h1, h2⟩
    · exact ⟨_, .done (by rw [h])⟩
    · obtain ⟨U, hU⟩ := ih (zeg_ rs w (T, false)).1 (by simp at h2; omega)
      exact ⟨U, .more h1 hU⟩
def noTab : Tab := fun _ _ _ => false
open Classical in
noncomputable def spanT (rs : List (Int × List Int)) (w : List Int) : Tab := if h : ∃ U, Span rs w noTab U then Classical.choose h else noTab
theorem Span.eq {rs : List (Int × List Int)} {w : List Int} {U : Tab} (h : Span rs w noTab U) : U = spanT rs w := by
  have hx : ∃ U, Span rs w noTab U := ⟨U, h⟩
  unfold spanT
  rw [dif_pos hx]
  exact h.det (Classical.choose_spec hx)
noncomputable def inL (rs : List (Int × List Int)) (w : List Int) : Bool := spanT rs w 0 0 w.length
end Go.Sh

namespace Go.Proofs.Ytegcjkhebecgbaa
open Go Go.Sh

def pl111 : Plans := fun _ => ⟨false, [], .nil⟩
def S111 (v0 v1 : Value) (k : Value → World → Prop) (w : World) : Prop :=
 Do Try.prog (sBox 26 v0) (fun t1 w2 =>
 Rd Try.prog (WS.at w2) (zc_ 26 t1) fun t3 =>
 CallK Try.prog 223 [t3, v1] (fun t4 w5 =>
 Rd Try.prog (WS.at w5) (sUn .not t4) fun t6 =>
 zi_ t6
  (k (.tuple #[(.slice none 0 0), (.bool false)]) w5)
  (Rd Try.prog (WS.at w5) (zc_ 26 t1) fun t7 =>
  CallK Try.prog 224 [t7, v1] (fun t8 w9 =>
  Rd Try.prog (WS.at w9) (ze_ .len #[27] 3 [false] [t8]) fun t10 =>
  Rd Try.prog (WS.at w9) (sBin .gtr 3 true t10 (.int .i64 0)) fun t11 =>
  k (.tuple #[t8, t11]) w9) w5)) w2) w
theorem body111 : Try.f111.body = some (zg_ Try.f111) := by kernel_rfl
theorem same111 (v0 v1 : Value) (k : Value → World → Prop) (w : World) : wpF Try.prog pl111 (zg_ Try.f111) (zr_ Try.prog Try.f111.results.toList k) (zm_ [v0, v1]) w = S111 v0 v1 k w := by kernel_rfl
theorem enter111 {v0 v1 : Value} {k : Value → World → Prop} {w : World} (h : S111 v0 v1 k w) : CallK Try.prog 111 [v0, v1] k w :=
  call_of_wpF (pl := pl111) zab_ Try.func111 body111 (by kernel_rfl) (of_decide_eq_true (by kernel_rfl)) (by kernel_rfl) (by kernel_rfl) (Eq.mpr (same111 v0 v1 k w) h)

def pl110 : Plans := fun i => match i with
  | 7 => ⟨false, [24], .step 0 .any (.step 1 .any (.step 2 .any (.step 3 .held (.step 4 .any (.step 5 .any (.step 6 .any (.step 7 .held (.step 8 .any (.step 9 .any (.step 10 .any (.step 11 .held (.step 12 .any (.step 13 .any (.step 14 .any (.step 15 .held (.step 16 .any (.step 17 .any (.step 18 .any (.step 19 .held (.step 20 .any (.step 21 .any (.step 22 .any (.step 23 .held (.step 24 .last (.step 25 .any (.step 26 .any (.nil)))))))))))))))))))))))))))⟩
  | _ => ⟨false, [], .nil⟩
def S110 (v0 v1 : Value) (k : Value → World → Prop) (w : World) : Prop :=
 Do Try.prog (sBox 26 v0) (fun t1 w2 =>
 Rd Try.prog (WS.at w2) (zc_ 26 t1) fun t3 =>
 CallK Try.prog 221 [t3, v1] (fun t4 w5 =>
 Rd Try.prog (WS.at w5) (zk_ t4 0) fun t6 =>
 Rd Try.prog (WS.at w5) (zk_ t4 1) fun t7 =>
 Rd Try.prog (WS.at w5) (zk_ t4 2) fun t8 =>
 Rd Try.prog (WS.at w5) (sUn .not t8) fun t9 =>
 zi_ t9
  (k (.tuple #[(.slice none 0 0), (.bool false)]) w5)
  (CallK Try.prog 222 [t6] (fun t10 w11 =>
  Rd Try.prog (WS.at w11) (zk_ t10 0) fun t12 =>
  Rd Try.prog (WS.at w11) (zk_ t10 1) fun t13 =>
  Rd Try.prog (WS.at w11) (sBin .eql 151 true t12 (.pointer none)) fun t14 =>
  zi_ t14
   (k (.tuple #[(.slice none 0 0), (.bool false)]) w11)
   (Rd Try.prog WS.any (zu_ t12) fun t15 =>
   Rd Try.prog WS.any (zb_ 156 t15 2) fun t16 =>
   Rd Try.prog (WS.at w11.drew) (zc_ 3 t16) fun t17 =>
   Rd Try.prog WS.any (zu_ t13) fun t18 =>
   Rd Try.prog WS.any (zb_ 156 t18 2) fun t19 =>
   Rd Try.prog (WS.at w11.drew) (zc_ 3 t19) fun t20 =>
   Rd Try.prog WS.any (zu_ t12) fun t21 =>
   Rd Try.prog WS.any (zb_ 156 t21 4) fun t22 =>
   Rd Try.prog (WS.at w11.drew) (zc_ 3 t22) fun t23 =>
   Rd Try.prog WS.any (zu_ t13) fun t24 =>
   Rd Try.prog WS.any (zb_ 156 t24 4) fun t25 =>
   Rd Try.prog (WS.at w11.drew) (zc_ 3 t25) fun t26 =>
   Rd Try.prog WS.any (zu_ t13) fun t27 =>
   Rd Try.prog WS.any (zb_ 156 t27 5) fun t28 =>
   Rd Try.prog (WS.at w11.drew) (zc_ 3 t28) fun t29 =>
   Rd Try.prog WS.any (zu_ t12) fun t30 =>
   Rd Try.prog WS.any (zb_ 156 t30 5) fun t31 =>
   Rd Try.prog (WS.at w11.drew) (zc_ 3 t31) fun t32 =>
   Do Try.prog (zh_ 27 6 [(0, t17), (1, t20), (2, t23), (3, t26), (4, t29), (5, t32)]) (fun t33 w34 =>
   k (.tuple #[t33, (.bool true)]) w34) w11.drew)) w5)) w2) w
theorem body110 : Try.f110.body = some (zg_ Try.f110) := by kernel_rfl
theorem same110 (v0 v1 : Value) (k : Value → World → Prop) (w : World) : wpF Try.prog pl110 (zg_ Try.f110) (zr_ Try.prog Try.f110.results.toList k) (zm_ [v0, v1]) w = S110 v0 v1 k w := by kernel_rfl
theorem enter110 {v0 v1 : Value} {k : Value → World → Prop} {w : World} (h : S110 v0 v1 k w) : CallK Try.prog 110 [v0, v1] k w :=
  call_of_wpF (pl := pl110) zab_ Try.func110 body110 (by kernel_rfl) (of_decide_eq_true (by kernel_rfl)) (by kernel_rfl) (by kernel_rfl) (Eq.mpr (same110 v0 v1 k w) h)

def pl113 : Plans := fun _ => ⟨false, [], .nil⟩
def S113 (v0 v1 : Value) (k : Value → World → Prop) (w : World) : Prop :=
 Do Try.prog (sBox 26 v0) (fun t1 w2 =>
 Rd Try.prog (WS.at w2) (zc_ 26 t1) fun t3 =>
 CallK Try.prog 223 [t3, v1] (fun t4 w5 =>
 Rd Try.prog (WS.at w5) (sUn .not t4) fun t6 =>
 zi_ t6
  (k (.tuple #[(.slice none 0 0), (.bool false)]) w5)
  (Rd Try.prog (WS.at w5) (zc_ 26 t1) fun t7 =>
  CallK Try.prog 225 [t7, v1, (.int .i64 0), (.int .i64 0)] (fun t8 w9 =>
  Rd Try.prog (WS.at w9) (zk_ t8 0) fun t10 =>
  Rd Try.prog (WS.at w9) (zk_ t8 1) fun t11 =>
  k (.tuple #[t10, (.bool true)]) w9) w5)) w2) w
theorem body113 : Try.f113.body = some (zg_ Try.f113) := by kernel_rfl
theorem same113 (v0 v1 : Value) (k : Value → World → Prop) (w : World) : wpF Try.prog pl113 (zg_ Try.f113) (zr_ Try.prog Try.f113.results.toList k) (zm_ [v0, v1]) w = S113 v0 v1 k w := by kernel_rfl
theorem enter113 {v0 v1 : Value} {k : Value → World → Prop} {w : World} (h : S113 v0 v1 k w) : CallK Try.prog 113 [v0, v1] k w :=
  call_of_wpF (pl := pl113) zab_ Try.func113 body113 (by kernel_rfl) (of_decide_eq_true (by kernel_rfl)) (by kernel_rfl) (by kernel_rfl) (Eq.mpr (same113 v0 v1 k w) h)

def pl112 : Plans := fun i => match i with
  | 8 => ⟨false, [17, 18, 19], .step 0 .any (.step 1 .any (.step 2 .any (.step 3 .any (.step 4 .held (.step 5 .any (.step 6 .any (.step 7 .any (.step 8 .held (.step 9 .any (.step 10 .any (.step 11 .any (.step 12 .held (.step 13 .any (.step 14 .any (.step 15 .any (.step 16 .held (.step 17 .last (.step 18 .last (.step 19 .last (.step 20 .any (.nil)))))))))))))))))))))⟩
  | _ => ⟨false, [], .nil⟩
def S112 (v0 v1 : Value) (k : Value → World → Prop) (w : World) : Prop :=
 Do Try.prog (sBox 26 v0) (fun t1 w2 =>
 Rd Try.prog (WS.at w2) (zc_ 26 t1) fun t3 =>
 CallK Try.prog 221 [t3, v1] (fun t4 w5 =>
 Rd Try.prog (WS.at w5) (zk_ t4 0) fun t6 =>
 Rd Try.prog (WS.at w5) (zk_ t4 1) fun t7 =>
 Rd Try.prog (WS.at w5) (zk_ t4 2) fun t8 =>
 Rd Try.prog (WS.at w5) (sUn .not t8) fun t9 =>
 zi_ t9
  (k (.tuple #[(.slice none 0 0), (.bool false)]) w5)
  (Do Try.prog (zh_ 35 0 []) (fun t10 w11 =>
  CallK Try.prog 227 [t6] (fun t12 w13 =>
  Rd Try.prog (WS.at w13) (ze_ .len #[154] 3 [false] [t12]) fun t14 =>
  zfb_ [26, 27, 28, 11, 29, 30, 31, 32, 33, 34, 35, 36, 37, 38, 39, 40, 41, 42, 43, 44, 45, 46, 47, 48, 9, 49, 25] (fun Q15 f16 w17 =>
   Rd Try.prog (WS.at w17) (sBin .lss 3 false (f16 25) (f16 24)) fun t18 =>
   zi_ t18
    (Rd Try.prog (WS.at w17) (zd_ 154 (f16 23) (f16 25)) fun t19 =>
    Rd Try.prog (WS.at w17) (zc_ 151 t19) fun t20 =>
    Rd Try.prog WS.any (zu_ t20) fun t21 =>
    Rd Try.prog WS.any (zb_ 156 t21 0) fun t22 =>
    Rd Try.prog (WS.at w17.drew) (zc_ 3 t22) fun t23 =>
    Rd Try.prog WS.any (zu_ t20) fun t24 =>
    Rd Try.prog WS.any (zb_ 156 t24 3) fun t25 =>
    Rd Try.prog (WS.at w17.drew) (zc_ 3 t25) fun t26 =>
    Rd Try.prog WS.any (zu_ t20) fun t27 =>
    Rd Try.prog WS.any (zb_ 156 t27 4) fun t28 =>
    Rd Try.prog (WS.at w17.drew) (zc_ 3 t28) fun t29 =>
    Rd Try.prog WS.any (zu_ t20) fun t30 =>
    Rd Try.prog WS.any (zb_ 156 t30 5) fun t31 =>
    Rd Try.prog (WS.at w17.drew) (zc_ 3 t31) fun t32 =>
    Do Try.prog (zh_ 27 4 [(0, t23), (1, t26), (2, t29), (3, t32)]) (fun t33 w34 =>
    Do Try.prog (zh_ 35 1 [(0, t33)]) (fun t35 w36 =>
    Do Try.prog (ze_ .append #[35, 35] 35 [false, false] [(f16 9), t35]) (fun t37 w38 =>
    Rd Try.prog (WS.at w38) (sBin .add 3 true (f16 25) (.int .i64 1)) fun t39 =>
    Q15 .normal (F.upd (F.upd (F.upd (F.upd (F.upd (F.upd (F.upd (F.upd (F.upd (F.upd (F.upd (F.upd (F.upd (F.upd (F.upd (F.upd (F.upd (F.upd (F.upd (F.upd (F.upd (F.upd (F.upd (F.upd (F.upd (F.upd (F.upd f16 26 t18) 27 t19) 28 t20) 11 t20) 29 (f16 9)) 30 t20) 31 t21) 32 t22) 33 t23) 34 t20) 35 t24) 36 t25) 37 t26) 38 t20) 39 t27) 40 t28) 41 t29) 42 t20) 43 t30) 44 t31) 45 t32) 46 t33) 47 t35) 48 t37) 9 t37) 49 t39) 25 t39) w38) w36) w34) w17.drew)
    (Q15 (.exit 0) (F.upd f16 26 t18) w17))
   (zt_ 0 (seqQ (fun f40 w41 =>
  k (.tuple #[(f40 9), (.bool true)]) w41) (zr_ Try.prog [.tmp 4, .tmp 5] k)))
   (F.upd (F.upd (F.upd (F.upd (F.upd (F.upd (F.upd (F.upd (F.upd (F.upd (F.upd (F.upd (F.upd (F.upd (F.upd (F.upd (F.upd (F.upd (F.upd (F.upd (F.upd (zm_ [v0, v1]) 2 t1) 4 (.slice none 0 0)) 5 (.bool false)) 13 t3) 14 v1) 15 t4) 12 t4) 16 t6) 17 t7) 18 t8) 6 t6) 7 t7) 8 t8) 19 t8) 20 t9) 21 t10) 9 t10) 22 t6) 23 t12) 24 t14) 25 (.int .i64 0)) w13) w11) w5)) w2) w
theorem body112 : Try.f112.body = some (zg_ Try.f112) := by kernel_rfl
theorem same112 (v0 v1 : Value) (k : Value → World → Prop) (w : World) : wpF Try.prog pl112 (zg_ Try.f112) (zr_ Try.prog Try.f112.results.toList k) (zm_ [v0, v1]) w = S112 v0 v1 k w := by kernel_rfl
theorem enter112 {v0 v1 : Value} {k : Value → World → Prop} {w : World} (h : S112 v0 v1 k w) : CallK Try.prog 112 [v0, v1] k w :=
  call_of_wpF (pl := pl112) zab_ Try.func112 body112 (by kernel_rfl) (of_decide_eq_true (by kernel_rfl)) (by kernel_rfl) (by kernel_rfl) (Eq.mpr (same112 v0 v1 k w) h)

def pl109 : Plans := fun i => match i with
  | 7 => ⟨false, [], .step 0 .any (.step 1 .any (.step 2 .held (.step 3 .any (.step 4 .any (.step 5 .held (.step 6 .any (.step 7 .any (.nil))))))))⟩
  | 8 => ⟨false, [14], .step 0 .any (.step 1 .any (.step 2 .any (.step 3 .any (.step 4 .any (.step 5 .held (.step 6 .any (.step 7 .held (.step 8 .any (.step 9 .any (.step 10 .any (.step 11 .held (.step 12 .any (.step 13 .held (.step 14 .last (.step 15 .any (.nil))))))))))))))))⟩
  | _ => ⟨false, [], .nil⟩
def S109 (v0 v1 v2 : Value) (k : Value → World → Prop) (w : World) : Prop :=
 Do Try.prog (sBox 26 v0) (fun t1 w2 =>
 Rd Try.prog (WS.at w2) (zc_ 26 t1) fun t3 =>
 CallK Try.prog 223 [t3, v1] (fun t4 w5 =>
 Rd Try.prog (WS.at w5) (sUn .not t4) fun t6 =>
 za_ t6 false (fun k w' => k v2 w') (fun t7 w8 =>
 za_ t6 false (fun k w' => CallK Try.prog 152 [t7, (.int .i64 0), (.int .i64 4)] k w') (fun t9 w10 =>
 za_ t6 false (fun k w' => Rd Try.prog (WS.at w10) (sUn .not t9) fun v => k v w') (fun t11 w12 =>
 Rd Try.prog (WS.at w12) (zw_ t6 (.bool true) t11) fun t13 =>
 zi_ t13
  (k (.tuple #[(.slice none 0 0), (.bool false)]) w12)
  (Rd Try.prog (WS.at w12) (zc_ 26 t1) fun t14 =>
  CallK Try.prog 224 [t14, v1] (fun t15 w16 =>
  Rd Try.prog (WS.at w16) (ze_ .len #[27] 3 [false] [t15]) fun t17 =>
  Rd Try.prog (WS.at w16) (sBin .eql 3 true t17 (.int .i64 0)) fun t18 =>
  zi_ t18
   (k (.tuple #[(.slice none 0 0), (.bool false)]) w16)
   (Rd Try.prog (WS.at w16) (zc_ 26 t1) fun t19 =>
   CallK Try.prog 225 [t19, v1, (.int .i64 0), (.int .i64 0)] (fun t20 w21 =>
   Rd Try.prog (WS.at w21) (zk_ t20 0) fun t22 =>
   Rd Try.prog (WS.at w21) (zk_ t20 1) fun t23 =>
   Rd Try.prog WS.any (zd_ 27 t15 (.int .i64 0)) fun t24 =>
   Rd Try.prog (WS.at w21.drew) (zc_ 3 t24) fun t25 =>
   Rd Try.prog WS.any (zd_ 27 t15 (.int .i64 1)) fun t26 =>
   Rd Try.prog (WS.at w21.drew) (zc_ 3 t26) fun t27 =>
   Rd Try.prog WS.any (zd_ 35 t22 t27) fun t28 =>
   Rd Try.prog (WS.at w21.drew.drew) (zc_ 27 t28) fun t29 =>
   Rd Try.prog WS.any (zd_ 27 t29 (.int .i64 1)) fun t30 =>
   Rd Try.prog (WS.at w21.drew.drew) (zc_ 3 t30) fun t31 =>
   Rd Try.prog WS.any (zd_ 35 t22 t25) fun t32 =>
   Rd Try.prog (WS.at w21.drew.drew) (zc_ 27 t32) fun t33 =>
   Rd Try.prog WS.any (zd_ 27 t33 (.int .i64 1)) fun t34 =>
   Rd Try.prog (WS.at w21.drew.drew) (zc_ 3 t34) fun t35 =>
   Do Try.prog (zh_ 27 4 [(0, t25), (1, t27), (2, t31), (3, t35)]) (fun t36 w37 =>
   CallK Try.prog 226 [v1, t36, v2] (fun t38 w39 =>
   Rd Try.prog (WS.at w39) (ze_ .len #[27] 3 [false] [t38]) fun t40 =>
   Rd Try.prog (WS.at w39) (sBin .gtr 3 true t40 (.int .i64 60)) fun t41 =>
   zi_ t41
    (k (.tuple #[(.slice none 0 0), (.bool false)]) w39)
    (k (.tuple #[t38, (.bool true)]) w39)) w37) w21.drew.drew) w16)) w12)) w10) w8) w5) w2) w
theorem body109 : Try.f109.body = some (zg_ Try.f109) := by kernel_rfl
theorem same109 (v0 v1 v2 : Value) (k : Value → World → Prop) (w : World) : wpF Try.prog pl109 (zg_ Try.f109) (zr_ Try.prog Try.f109.results.toList k) (zm_ [v0, v1, v2]) w = S109 v0 v1 v2 k w := by kernel_rfl
theorem enter109 {v0 v1 v2 : Value} {k : Value → World → Prop} {w : World} (h : S109 v0 v1 v2 k w) : CallK Try.prog 109 [v0, v1, v2] k w :=
  call_of_wpF (pl := pl109) zab_ Try.func109 body109 (by kernel_rfl) (of_decide_eq_true (by kernel_rfl)) (by kernel_rfl) (by kernel_rfl) (Eq.mpr (same109 v0 v1 v2 k w) h)

def pl108 : Plans := fun i => match i with
  | 10 => ⟨false, [11], .step 0 .any (.step 1 .any (.step 2 .any (.step 3 .any (.step 4 .any (.step 5 .held (.step 6 .any (.step 7 .any (.step 8 .any (.step 9 .held (.step 10 .any (.step 11 .last (.step 12 .any (.nil)))))))))))))⟩
  | 12 => ⟨false, [11], .step 0 .any (.step 1 .any (.step 2 .any (.step 3 .any (.step 4 .any (.step 5 .held (.step 6 .any (.step 7 .any (.step 8 .any (.step 9 .held (.step 10 .any (.step 11 .last (.step 12 .any (.nil)))))))))))))⟩
  | 15 => ⟨false, [11], .step 0 .any (.step 1 .any (.step 2 .any (.step 3 .any (.step 4 .any (.step 5 .held (.step 6 .any (.step 7 .any (.step 8 .any (.step 9 .held (.step 10 .any (.step 11 .last (.step 12 .any (.nil)))))))))))))⟩
  | _ => ⟨false, [], .nil⟩
def S108 (v0 v1 v2 : Value) (k : Value → World → Prop) (w : World) : Prop :=
 Do Try.prog (sBox 26 v0) (fun t1 w2 =>
 Rd Try.prog (WS.at w2) (zc_ 26 t1) fun t3 =>
 CallK Try.prog 221 [t3, v1] (fun t4 w5 =>
 Rd Try.prog (WS.at w5) (zk_ t4 0) fun t6 =>
 Rd Try.prog (WS.at w5) (zk_ t4 1) fun t7 =>
 Rd Try.prog (WS.at w5) (zk_ t4 2) fun t8 =>
 Rd Try.prog (WS.at w5) (sUn .not t8) fun t9 =>
 za_ t9 false (fun k w' => k v2 w') (fun t10 w11 =>
 za_ t9 false (fun k w' => CallK Try.prog 149 [t10, (.int .i64 0), (.int .i64 4)] k w') (fun t12 w13 =>
 za_ t9 false (fun k w' => Rd Try.prog (WS.at w13) (sUn .not t12) fun v => k v w') (fun t14 w15 =>
 Rd Try.prog (WS.at w15) (zw_ t9 (.bool true) t14) fun t16 =>
 zi_ t16
  (k (.tuple #[(.slice none 0 0), (.bool false)]) w15)
  (CallK Try.prog 222 [t6] (fun t17 w18 =>
  Rd Try.prog (WS.at w18) (zk_ t17 0) fun t19 =>
  Rd Try.prog (WS.at w18) (zk_ t17 1) fun t20 =>
  Rd Try.prog (WS.at w18) (sBin .eql 151 true t19 (.pointer none)) fun t21 =>
  zi_ t21
   (k (.tuple #[(.slice none 0 0), (.bool false)]) w18)
   (Do Try.prog (zh_ 27 0 []) (fun t22 w23 =>
   Rd Try.prog (WS.at w23) (zu_ t19) fun t24 =>
   Rd Try.prog (WS.at w23) (zb_ 156 t24 2) fun t25 =>
   Rd Try.prog (WS.at w23) (zc_ 3 t25) fun t26 =>
   Rd Try.prog (WS.at w23) (zrb_ 27 v1 none (some t26) none) fun t27 =>
   Do Try.prog (ze_ .append #[27, 27] 27 [false, false] [t22, t27]) (fun t28 w29 =>
   zfb_ [45, 46, 47, 48, 49, 50, 51, 52, 53, 54, 55, 56, 57, 13, 58, 44] (fun Q30 f31 w32 =>
    Rd Try.prog (WS.at w32) (sBin .lss 3 false (f31 44) (f31 43)) fun t33 =>
    zi_ t33
     (Rd Try.prog WS.any (zu_ (f31 11)) fun t34 =>
     Rd Try.prog WS.any (zb_ 156 t34 2) fun t35 =>
     Rd Try.prog (WS.at w32.drew) (zc_ 3 t35) fun t36 =>
     Rd Try.prog WS.any (zu_ (f31 12)) fun t37 =>
     Rd Try.prog WS.any (zb_ 156 t37 2) fun t38 =>
     Rd Try.prog (WS.at w32.drew) (zc_ 3 t38) fun t39 =>
     Rd Try.prog WS.any (zrb_ 27 (f31 1) (some t36) (some t39) none) fun t40 =>
     Do Try.prog (ze_ .append #[27, 27] 27 [false, false] [(f31 13), t40]) (fun t41 w42 =>
     Rd Try.prog (WS.at w42) (sBin .add 3 true (f31 44) (.int .i64 1)) fun t43 =>
     Q30 .normal (F.upd (F.upd (F.upd (F.upd (F.upd (F.upd (F.upd (F.upd (F.upd (F.upd (F.upd (F.upd (F.upd (F.upd (F.upd (F.upd f31 45 t33) 46 (f31 13)) 47 (f31 1)) 48 (f31 11)) 49 t34) 50 t35) 51 t36) 52 (f31 12)) 53 t37) 54 t38) 55 t39) 56 t40) 57 t41) 13 t41) 58 t43) 44 t43) w42) w32.drew)
     (Q30 (.exit 0) (F.upd f31 45 t33) w32))
    (zt_ 0 (seqQ (fun f44 w45 =>
   Rd Try.prog WS.any (zu_ (f44 12)) fun t46 =>
   Rd Try.prog WS.any (zb_ 156 t46 2) fun t47 =>
   Rd Try.prog (WS.at w45.drew) (zc_ 3 t47) fun t48 =>
   Rd Try.prog WS.any (zu_ (f44 12)) fun t49 =>
   Rd Try.prog WS.any (zb_ 156 t49 3) fun t50 =>
   Rd Try.prog (WS.at w45.drew) (zc_ 3 t50) fun t51 =>
   Rd Try.prog WS.any (zrb_ 27 (f44 1) (some t48) (some t51) none) fun t52 =>
   Do Try.prog (ze_ .append #[27, 27] 27 [false, false] [(f44 13), t52]) (fun t53 w54 =>
   zfb_ [73, 74, 75, 76, 77, 78, 79, 80, 81, 82, 83, 84, 85, 13, 86, 72] (fun Q55 f56 w57 =>
    Rd Try.prog (WS.at w57) (sBin .lss 3 false (f56 72) (f56 71)) fun t58 =>
    zi_ t58
     (Rd Try.prog WS.any (zu_ (f56 12)) fun t59 =>
     Rd Try.prog WS.any (zb_ 156 t59 3) fun t60 =>
     Rd Try.prog (WS.at w57.drew) (zc_ 3 t60) fun t61 =>
     Rd Try.prog WS.any (zu_ (f56 11)) fun t62 =>
     Rd Try.prog WS.any (zb_ 156 t62 3) fun t63 =>
     Rd Try.prog (WS.at w57.drew) (zc_ 3 t63) fun t64 =>
     Rd Try.prog WS.any (zrb_ 27 (f56 1) (some t61) (some t64) none) fun t65 =>
     Do Try.prog (ze_ .append #[27, 27] 27 [false, false] [(f56 13), t65]) (fun t66 w67 =>
     Rd Try.prog (WS.at w67) (sBin .add 3 true (f56 72) (.int .i64 1)) fun t68 =>
     Q55 .normal (F.upd (F.upd (F.upd (F.upd (F.upd (F.upd (F.upd (F.upd (F.upd (F.upd (F.upd (F.upd (F.upd (F.upd (F.upd (F.upd f56 73 t58) 74 (f56 13)) 75 (f56 1)) 76 (f56 12)) 77 t59) 78 t60) 79 t61) 80 (f56 11)) 81 t62) 82 t63) 83 t64) 84 t65) 85 t66) 13 t66) 86 t68) 72 t68) w67) w57.drew)
     (Q55 (.exit 2) (F.upd f56 73 t58) w57))
    (zt_ 2 (seqQ (fun f69 w70 =>
   Rd Try.prog (WS.at w70) (zu_ (f69 11)) fun t71 =>
   Rd Try.prog (WS.at w70) (zb_ 156 t71 3) fun t72 =>
   Rd Try.prog (WS.at w70) (zc_ 3 t72) fun t73 =>
   Rd Try.prog (WS.at w70) (zrb_ 27 (f69 1) (some t73) none none) fun t74 =>
   Do Try.prog (ze_ .append #[27, 27] 27 [false, false] [(f69 13), t74]) (fun t75 w76 =>
   Rd Try.prog (WS.at w76) (ze_ .len #[27] 3 [false] [t75]) fun t77 =>
   Rd Try.prog (WS.at w76) (sBin .gtr 3 true t77 (.int .i64 60)) fun t78 =>
   zi_ t78
    (k (.tuple #[(.slice none 0 0), (.bool false)]) w76)
    (k (.tuple #[t75, (.bool true)]) w76)) w70) (zr_ Try.prog [.tmp 6, .tmp 7] k)))
    (F.upd (F.upd (F.upd (F.upd (F.upd (F.upd (F.upd (F.upd (F.upd (F.upd (F.upd (F.upd (F.upd (F.upd (F.upd f44 59 (f44 13)) 60 (f44 1)) 61 (f44 12)) 62 t46) 63 t47) 64 t48) 65 (f44 12)) 66 t49) 67 t50) 68 t51) 69 t52) 70 t53) 13 t53) 71 (f44 2)) 72 (.int .i64 0)) w54) w45.drew) (zr_ Try.prog [.tmp 6, .tmp 7] k)))
    (F.upd (F.upd (F.upd (F.upd (F.upd (F.upd (F.upd (F.upd (F.upd (F.upd (F.upd (F.upd (F.upd (F.upd (F.upd (F.upd (F.upd (F.upd (F.upd (F.upd (F.upd (F.upd (F.upd (F.upd (F.upd (F.upd (F.upd (F.upd (F.upd (F.upd (F.upd (F.upd (F.upd (F.upd (F.upd (F.upd (F.upd (F.upd (F.upd (F.upd (zm_ [v0, v1, v2]) 3 t1) 6 (.slice none 0 0)) 7 (.bool false)) 15 t3) 16 v1) 17 t4) 14 t4) 18 t6) 19 t7) 20 t8) 8 t6) 9 t7) 10 t8) 21 t8) 22 t9) 23 t9) 24 t10) 25 t12) 26 t14) 27 t16) 29 t6) 30 t17) 28 t17) 31 t19) 32 t20) 11 t19) 12 t20) 33 t19) 34 t21) 35 t22) 36 v1) 37 t19) 38 t24) 39 t25) 40 t26) 41 t27) 42 t28) 13 t28) 43 v2) 44 (.int .i64 0)) w29) w23) w18)) w15)) w13) w11) w5) w2) w
theorem body108 : Try.f108.body = some (zg_ Try.f108) := by kernel_rfl
theorem same108 (v0 v1 v2 : Value) (k : Value → World → Prop) (w : World) : wpF Try.prog pl108 (zg_ Try.f108) (zr_ Try.prog Try.f108.results.toList k) (zm_ [v0, v1, v2]) w = S108 v0 v1 v2 k w := by kernel_rfl
theorem enter108 {v0 v1 v2 : Value} {k : Value → World → Prop} {w : World} (h : S108 v0 v1 v2 k w) : CallK Try.prog 108 [v0, v1, v2] k w :=
  call_of_wpF (pl := pl108) zab_ Try.func108 body108 (by kernel_rfl) (of_decide_eq_true (by kernel_rfl)) (by kernel_rfl) (by kernel_rfl) (Eq.mpr (same108 v0 v1 v2 k w) h)

def pl223 : Plans := fun _ => ⟨false, [], .nil⟩
def S223 (v0 v1 : Value) (k : Value → World → Prop) (w : World) : Prop :=
 Do Try.prog (sBox 26 v0) (fun t1 w2 =>
 Rd Try.prog (WS.at w2) (zc_ 26 t1) fun t3 =>
 CallK Try.prog 294 [t3, (.int .i64 0), v1] (fun t4 w5 =>
 za_ t4 true (fun k w' => Rd Try.prog (WS.at w5) (zc_ 26 t1) fun v => k v w') (fun t6 w7 =>
 za_ t4 true (fun k w' => k v1 w') (fun t8 w9 =>
 za_ t4 true (fun k w' => CallK Try.prog 295 [t6, (.int .i64 0), t8] k w') (fun t10 w11 =>
 Rd Try.prog (WS.at w11) (zw_ t4 t10 (.bool false)) fun t12 =>
 k t12 w11) w9) w7) w5) w2) w
theorem body223 : Try.f223.body = some (zg_ Try.f223) := by kernel_rfl
theorem same223 (v0 v1 : Value) (k : Value → World → Prop) (w : World) : wpF Try.prog pl223 (zg_ Try.f223) (zr_ Try.prog Try.f223.results.toList k) (zm_ [v0, v1]) w = S223 v0 v1 k w := by kernel_rfl
theorem enter223 {v0 v1 : Value} {k : Value → World → Prop} {w : World} (h : S223 v0 v1 k w) : CallK Try.prog 223 [v0, v1] k w :=
  call_of_wpF (pl := pl223) zab_ Try.func223 body223 (by kernel_rfl) (of_decide_eq_true (by kernel_rfl)) (by kernel_rfl) (by kernel_rfl) (Eq.mpr (same223 v0 v1 k w) h)

def pl224 : Plans := fun i => match i with
  | 9 => ⟨false, [], .step 0 .any (.step 1 .any (.step 2 .held (.step 3 .any (.step 4 .any (.step 5 .held (.step 6 .any (.step 7 .any (.step 8 .any (.step 9 .any (.step 10 .held (.step 11 .any (.step 12 .any (.step 13 .held (.step 14 .any (.step 15 .any (.step 16 .any (.step 17 .any (.step 18 .held (.step 19 .any (.step 20 .any (.step 21 .held (.step 22 .any (.step 23 .any (.step 24 .any (.nil)))))))))))))))))))))))))⟩
  | 10 => ⟨false, [14], .step 0 .any (.step 1 .any (.step 2 .any (.step 3 .any (.step 4 .held (.step 5 .any (.step 6 .any (.step 7 .held (.step 8 .any (.step 9 .any (.step 10 .held (.step 11 .any (.step 12 .any (.step 13 .held (.step 14 .last (.step 15 .any (.nil))))))))))))))))⟩
  | _ => ⟨false, [], .nil⟩
def S224 (v0 v1 : Value) (k : Value → World → Prop) (w : World) : Prop :=
 Do Try.prog (sBox 26 v0) (fun t1 w2 =>
 Rd Try.prog (WS.at w2) (zc_ 26 t1) fun t3 =>
 CallK Try.prog 225 [t3, v1, (.int .i64 0), (.int .i64 0)] (fun t4 w5 =>
 Rd Try.prog (WS.at w5) (zk_ t4 0) fun t6 =>
 Rd Try.prog (WS.at w5) (zk_ t4 1) fun t7 =>
 Rd Try.prog (WS.at w5) (ze_ .len #[35] 3 [false] [t6]) fun t8 =>
 zfb_ [20, 21, 22, 23, 7, 8, 24, 25, 9, 26, 27, 28, 29, 30, 33, 34, 35, 36, 10, 37, 38, 39, 40, 41, 42, 43, 44, 45, 46, 47, 48, 49, 50, 51, 52, 53, 54, 55, 56, 57, 58, 59, 60, 61, 62, 63, 64, 65, 66, 67, 68, 69, 70, 71, 72, 73, 74, 75, 76, 4, 31, 32, 9, 77, 19] (fun Q9 f10 w11 =>
  Rd Try.prog (WS.at w11) (sBin .lss 3 false (f10 19) (f10 18)) fun t12 =>
  zi_ t12
   (Rd Try.prog (WS.at w11) (zd_ 35 (f10 17) (f10 19)) fun t13 =>
   Rd Try.prog (WS.at w11) (zc_ 27 t13) fun t14 =>
   Rd Try.prog (WS.at w11) (sBin .add 3 true (f10 19) (.int .i64 1)) fun t15 =>
   zfb_ [26, 27, 28, 29, 30, 33, 34, 35, 36, 10, 37, 38, 39, 40, 41, 42, 43, 44, 45, 46, 47, 48, 49, 50, 51, 52, 53, 54, 55, 56, 57, 58, 59, 60, 61, 62, 63, 64, 65, 66, 67, 68, 69, 70, 71, 72, 73, 74, 75, 76, 4, 31, 32, 9] (fun Q16 f17 w18 =>
    Rd Try.prog (WS.at w18) (zd_ 27 (f17 8) (.int .i64 1)) fun t19 =>
    Rd Try.prog (WS.at w18) (zc_ 3 t19) fun t20 =>
    Rd Try.prog (WS.at w18) (sBin .lss 3 false (f17 9) t20) fun t21 =>
    zi_ t21
     (Rd Try.prog (WS.at w18) (zd_ 35 (f17 5) (f17 9)) fun t22 =>
     Rd Try.prog (WS.at w18) (zc_ 27 t22) fun t23 =>
     Rd Try.prog WS.any (zd_ 27 (f17 8) (.int .i64 0)) fun t24 =>
     Rd Try.prog (WS.at w18.drew) (zc_ 3 t24) fun t25 =>
     Rd Try.prog WS.any (zd_ 27 t23 (.int .i64 0)) fun t26 =>
     Rd Try.prog (WS.at w18.drew) (zc_ 3 t26) fun t27 =>
     Rd Try.prog WS.any (sBin .eql 3 false t25 t27) fun t28 =>
     za_ t28 true (fun k w' => k (f17 8) w') (fun t29 w30 =>
     za_ t28 true (fun k w' => Rd Try.prog WS.any (zd_ 27 t29 (.int .i64 2)) fun v => k v w') (fun t31 w32 =>
     za_ t28 true (fun k w' => Rd Try.prog (WS.at w18.drew) (zc_ 3 t31) fun v => k v w') (fun t33 w34 =>
     za_ t28 true (fun k w' => k t23 w') (fun t35 w36 =>
     za_ t28 true (fun k w' => Rd Try.prog WS.any (zd_ 27 t35 (.int .i64 2)) fun v => k v w') (fun t37 w38 =>
     za_ t28 true (fun k w' => Rd Try.prog (WS.at w18.drew) (zc_ 3 t37) fun v => k v w') (fun t39 w40 =>
     za_ t28 true (fun k w' => Rd Try.prog WS.any (sBin .neq 3 false t33 t39) fun v => k v w') (fun t41 w42 =>
     za_ t28 true (fun k w' => k t41 w') (fun t43 w44 =>
     za_ t43 false (fun k w' => k (f17 8) w') (fun t45 w46 =>
     za_ t43 false (fun k w' => Rd Try.prog WS.any (zd_ 27 t45 (.int .i64 3)) fun v => k v w') (fun t47 w48 =>
     za_ t43 false (fun k w' => Rd Try.prog (WS.at w18.drew) (zc_ 3 t47) fun v => k v w') (fun t49 w50 =>
     za_ t43 false (fun k w' => k t23 w') (fun t51 w52 =>
     za_ t43 false (fun k w' => Rd Try.prog WS.any (zd_ 27 t51 (.int .i64 3)) fun v => k v w') (fun t53 w54 =>
     za_ t43 false (fun k w' => Rd Try.prog (WS.at w18.drew) (zc_ 3 t53) fun v => k v w') (fun t55 w56 =>
     za_ t43 false (fun k w' => Rd Try.prog WS.any (sBin .neq 3 false t49 t55) fun v => k v w') (fun t57 w58 =>
     za_ t28 true (fun k w' => Rd Try.prog WS.any (zw_ t43 (.bool true) t57) fun v => k v w') (fun t59 w60 =>
     Rd Try.prog WS.any (zw_ t28 t59 (.bool false)) fun t61 =>
     zi_ t61
      (Rd Try.prog WS.any (zd_ 27 (f17 8) (.int .i64 2)) fun t62 =>
      Rd Try.prog (WS.at w60.drew) (zc_ 3 t62) fun t63 =>
      Rd Try.prog WS.any (zd_ 27 t23 (.int .i64 2)) fun t64 =>
      Rd Try.prog (WS.at w60.drew) (zc_ 3 t64) fun t65 =>
      Rd Try.prog WS.any (zd_ 27 t23 (.int .i64 3)) fun t66 =>
      Rd Try.prog (WS.at w60.drew) (zc_ 3 t66) fun t67 =>
      Rd Try.prog WS.any (zd_ 27 (f17 8) (.int .i64 3)) fun t68 =>
      Rd Try.prog (WS.at w60.drew) (zc_ 3 t68) fun t69 =>
      Do Try.prog (zh_ 27 6 [(0, (f17 7)), (1, (f17 9)), (2, t63), (3, t65), (4, t67), (5, t69)]) (fun t70 w71 =>
      Q16 .ret (F.upd (F.upd (F.upd (F.upd (F.upd (F.upd (F.upd (F.upd (F.upd (F.upd (F.upd (F.upd (F.upd (F.upd (F.upd (F.upd (F.upd (F.upd (F.upd (F.upd (F.upd (F.upd (F.upd (F.upd (F.upd (F.upd (F.upd (F.upd (F.upd (F.upd (F.upd (F.upd (F.upd (F.upd (F.upd (F.upd (F.upd (F.upd (F.upd (F.upd (F.upd (F.upd (F.upd (F.upd (F.upd (F.upd (F.upd (F.upd (F.upd (F.upd (F.upd f17 26 (f17 9)) 27 (f17 8)) 28 t19) 29 t20) 30 t21) 33 (f17 5)) 34 (f17 9)) 35 t22) 36 t23) 10 t23) 37 (f17 8)) 38 t24) 39 t25) 40 t23) 41 t26) 42 t27) 43 t28) 44 t28) 45 t29) 46 t31) 47 t33) 48 t35) 49 t37) 50 t39) 51 t41) 52 t43) 53 t45) 54 t47) 55 t49) 56 t51) 57 t53) 58 t55) 59 t57) 60 t59) 61 t61) 62 (f17 7)) 63 (f17 9)) 64 (f17 8)) 65 t62) 66 t63) 67 t23) 68 t64) 69 t65) 70 t23) 71 t66) 72 t67) 73 (f17 8)) 74 t68) 75 t69) 76 t70) 4 t70) w71) w60.drew)
      (Rd Try.prog (WS.at w60) (sBin .add 3 true (f17 9) (.int .i64 1)) fun t72 =>
      Q16 .normal (F.upd (F.upd (F.upd (F.upd (F.upd (F.upd (F.upd (F.upd (F.upd (F.upd (F.upd (F.upd (F.upd (F.upd (F.upd (F.upd (F.upd (F.upd (F.upd (F.upd (F.upd (F.upd (F.upd (F.upd (F.upd (F.upd (F.upd (F.upd (F.upd (F.upd (F.upd (F.upd (F.upd (F.upd (F.upd (F.upd (F.upd (F.upd f17 26 (f17 9)) 27 (f17 8)) 28 t19) 29 t20) 30 t21) 33 (f17 5)) 34 (f17 9)) 35 t22) 36 t23) 10 t23) 37 (f17 8)) 38 t24) 39 t25) 40 t23) 41 t26) 42 t27) 43 t28) 44 t28) 45 t29) 46 t31) 47 t33) 48 t35) 49 t37) 50 t39) 51 t41) 52 t43) 53 t45) 54 t47) 55 t49) 56 t51) 57 t53) 58 t55) 59 t57) 60 t59) 61 t61) 31 (f17 9)) 32 t72) 9 t72) w60)) w58) w56) w54) w52) w50) w48) w46) w44) w42) w40) w38) w36) w34) w32) w30) w18.drew)
     (Q16 (.exit 2) (F.upd (F.upd (F.upd (F.upd (F.upd f17 26 (f17 9)) 27 (f17 8)) 28 t19) 29 t20) 30 t21) w18))
    (zt_ 2 (zt_ 1 (seqQ (fun f73 w74 =>
   Rd Try.prog (WS.at w74) (sBin .add 3 true (f73 19) (.int .i64 1)) fun t75 =>
   Q9 .normal (F.upd (F.upd f73 77 t75) 19 t75) w74) Q9)))
    (F.upd (F.upd (F.upd (F.upd (F.upd (F.upd (F.upd (F.upd (F.upd f10 20 t12) 21 (f10 19)) 22 t13) 23 t14) 7 (f10 19)) 8 t14) 24 (f10 19)) 25 t15) 9 t15) w11)
   (Q9 (.exit 0) (F.upd f10 20 t12) w11))
  (zt_ 0 (seqQ (fun f76 w77 =>
 k (.slice none 0 0) w77) (zr_ Try.prog [.tmp 4] k)))
  (F.upd (F.upd (F.upd (F.upd (F.upd (F.upd (F.upd (F.upd (F.upd (F.upd (F.upd (F.upd (F.upd (zm_ [v0, v1]) 2 t1) 4 (.slice none 0 0)) 12 t3) 13 v1) 14 t4) 11 t4) 15 t6) 16 t7) 5 t6) 6 t7) 17 t6) 18 t8) 19 (.int .i64 0)) w5) w2) w
theorem body224 : Try.f224.body = some (zg_ Try.f224) := by kernel_rfl
theorem same224 (v0 v1 : Value) (k : Value → World → Prop) (w : World) : wpF Try.prog pl224 (zg_ Try.f224) (zr_ Try.prog Try.f224.results.toList k) (zm_ [v0, v1]) w = S224 v0 v1 k w := by kernel_rfl
theorem enter224 {v0 v1 : Value} {k : Value → World → Prop} {w : World} (h : S224 v0 v1 k w) : CallK Try.prog 224 [v0, v1] k w :=
  call_of_wpF (pl := pl224) zab_ Try.func224 body224 (by kernel_rfl) (of_decide_eq_true (by kernel_rfl)) (by kernel_rfl) (by kernel_rfl) (Eq.mpr (same224 v0 v1 k w) h)

def pl221 : Plans := fun i => match i with
  | 4 => ⟨false, [], .step 0 .any (.step 1 .any (.step 2 .any (.step 3 .any (.step 4 .any (.step 5 .any (.step 6 .any (.step 7 .held (.step 8 .any (.step 9 .any (.step 10 .any (.step 11 .any (.step 12 .any (.step 13 .any (.step 14 .any (.nil)))))))))))))))⟩
  | _ => ⟨false, [], .nil⟩
def S221 (v0 v1 : Value) (k : Value → World → Prop) (w : World) : Prop :=
 Do Try.prog (sBox 26 v0) (fun t1 w2 =>
 Rd Try.prog (WS.at w2) (zc_ 26 t1) fun t3 =>
 CallK Try.prog 148 [t3] (fun t4 w5 =>
 Rd Try.prog (WS.at w5) (sUn .not t4) fun t6 =>
 za_ t6 false (fun k w' => k v1 w') (fun t7 w8 =>
 za_ t6 false (fun k w' => Rd Try.prog (WS.at w8) (ze_ .len #[27] 3 [false] [t7]) fun v => k v w') (fun t9 w10 =>
 za_ t6 false (fun k w' => Rd Try.prog (WS.at w10) (sBin .gtr 3 true t9 (.int .i64 60)) fun v => k v w') (fun t11 w12 =>
 Rd Try.prog (WS.at w12) (zw_ t6 (.bool true) t11) fun t13 =>
 zi_ t13
  (k (.tuple #[(.pointer none), (.slice none 0 0), (.bool false)]) w12)
  (Rd Try.prog (WS.at w12) (zc_ 26 t1) fun t14 =>
  CallK Try.prog 179 [t14, (.int .i64 0), v1] (fun t15 w16 =>
  Rd Try.prog (WS.at w16) (zk_ t15 0) fun t17 =>
  Rd Try.prog (WS.at w16) (zk_ t15 1) fun t18 =>
  Rd Try.prog (WS.at w16) (zk_ t15 2) fun t19 =>
  za_ t19 true (fun k w' => k t17 w') (fun t20 w21 =>
  za_ t19 true (fun k w' => Rd Try.prog WS.any (zu_ t20) fun v => k v w') (fun t22 w23 =>
  za_ t19 true (fun k w' => Rd Try.prog WS.any (zb_ 156 t22 3) fun v => k v w') (fun t24 w25 =>
  za_ t19 true (fun k w' => Rd Try.prog (WS.at w16.drew) (zc_ 3 t24) fun v => k v w') (fun t26 w27 =>
  za_ t19 true (fun k w' => k v1 w') (fun t28 w29 =>
  za_ t19 true (fun k w' => Rd Try.prog WS.any (ze_ .len #[27] 3 [false] [t28]) fun v => k v w') (fun t30 w31 =>
  za_ t19 true (fun k w' => Rd Try.prog WS.any (sBin .eql 3 false t26 t30) fun v => k v w') (fun t32 w33 =>
  Rd Try.prog WS.any (zw_ t19 t32 (.bool false)) fun t34 =>
  k (.tuple #[t17, t18, t34]) w33) w31) w29) w27) w25) w23) w21) w16.drew) w12)) w10) w8) w5) w2) w
theorem body221 : Try.f221.body = some (zg_ Try.f221) := by kernel_rfl
theorem same221 (v0 v1 : Value) (k : Value → World → Prop) (w : World) : wpF Try.prog pl221 (zg_ Try.f221) (zr_ Try.prog Try.f221.results.toList k) (zm_ [v0, v1]) w = S221 v0 v1 k w := by kernel_rfl
theorem enter221 {v0 v1 : Value} {k : Value → World → Prop} {w : World} (h : S221 v0 v1 k w) : CallK Try.prog 221 [v0, v1] k w :=
  call_of_wpF (pl := pl221) zab_ Try.func221 body221 (by kernel_rfl) (of_decide_eq_true (by kernel_rfl)) (by kernel_rfl) (by kernel_rfl) (Eq.mpr (same221 v0 v1 k w) h)

def pl222 : Plans := fun i => match i with
  | 7 => ⟨false, [], .step 0 .any (.step 1 .any (.step 2 .any (.step 3 .held (.step 4 .any (.step 5 .any (.step 6 .any (.step 7 .held (.step 8 .any (.step 9 .any (.step 10 .any (.step 11 .any (.step 12 .any (.step 13 .held (.step 14 .any (.step 15 .any (.step 16 .any (.step 17 .held (.step 18 .any (.step 19 .any (.step 20 .any (.step 21 .any (.step 22 .any (.step 23 .held (.step 24 .any (.step 25 .any (.step 26 .any (.step 27 .held (.step 28 .any (.step 29 .any (.step 30 .any (.nil)))))))))))))))))))))))))))))))⟩
  | _ => ⟨false, [], .nil⟩
def S222 (v0 : Value) (k : Value → World → Prop) (w : World) : Prop :=
 CallK Try.prog 227 [v0] (fun t1 w2 =>
 Rd Try.prog (WS.at w2) (ze_ .len #[154] 3 [false] [t1]) fun t3 =>
 zfb_ [12, 13, 14, 5, 15, 16, 17, 18, 19, 20, 21, 22, 7, 23, 24, 25, 26, 27, 28, 29, 30, 31, 32, 33, 34, 35, 36, 37, 38, 39, 40, 41, 42, 43, 44, 45, 46, 47, 48, 49, 50, 51, 52, 53, 54, 55, 2, 3, 56, 19, 57, 11] (fun Q4 f5 w6 =>
  Rd Try.prog (WS.at w6) (sBin .lss 3 false (f5 11) (f5 10)) fun t7 =>
  zi_ t7
   (Rd Try.prog (WS.at w6) (zd_ 154 (f5 9) (f5 11)) fun t8 =>
   Rd Try.prog (WS.at w6) (zc_ 151 t8) fun t9 =>
   CallK Try.prog 227 [t9] (fun t10 w11 =>
   Rd Try.prog (WS.at w11) (zrb_ 154 t10 (some (.int .i64 1)) none none) fun t12 =>
   Rd Try.prog (WS.at w11) (ze_ .len #[154] 3 [false] [t12]) fun t13 =>
   zfb_ [20, 21, 22, 7, 23, 24, 25, 26, 27, 28, 29, 30, 31, 32, 33, 34, 35, 36, 37, 38, 39, 40, 41, 42, 43, 44, 45, 46, 47, 48, 49, 50, 51, 52, 53, 54, 55, 2, 3, 56, 19] (fun Q14 f15 w16 =>
    Rd Try.prog (WS.at w16) (sBin .lss 3 false (f15 19) (f15 18)) fun t17 =>
    zi_ t17
     (Rd Try.prog (WS.at w16) (zd_ 154 (f15 17) (f15 19)) fun t18 =>
     Rd Try.prog (WS.at w16) (zc_ 151 t18) fun t19 =>
     Rd Try.prog WS.any (zu_ (f15 5)) fun t20 =>
     Rd Try.prog WS.any (zb_ 156 t20 0) fun t21 =>
     Rd Try.prog (WS.at w16.drew) (zc_ 3 t21) fun t22 =>
     Rd Try.prog WS.any (zu_ t19) fun t23 =>
     Rd Try.prog WS.any (zb_ 156 t23 0) fun t24 =>
     Rd Try.prog (WS.at w16.drew) (zc_ 3 t24) fun t25 =>
     Rd Try.prog WS.any (sBin .eql 3 false t22 t25) fun t26 =>
     za_ t26 true (fun k w' => k (f15 5) w') (fun t27 w28 =>
     za_ t26 true (fun k w' => Rd Try.prog WS.any (zu_ t27) fun v => k v w') (fun t29 w30 =>
     za_ t26 true (fun k w' => Rd Try.prog WS.any (zb_ 156 t29 4) fun v => k v w') (fun t31 w32 =>
     za_ t26 true (fun k w' => Rd Try.prog (WS.at w16.drew) (zc_ 3 t31) fun v => k v w') (fun t33 w34 =>
     za_ t26 true (fun k w' => k t19 w') (fun t35 w36 =>
     za_ t26 true (fun k w' => Rd Try.prog WS.any (zu_ t35) fun v => k v w') (fun t37 w38 =>
     za_ t26 true (fun k w' => Rd Try.prog WS.any (zb_ 156 t37 4) fun v => k v w') (fun t39 w40 =>
     za_ t26 true (fun k w' => Rd Try.prog (WS.at w16.drew) (zc_ 3 t39) fun v => k v w') (fun t41 w42 =>
     za_ t26 true (fun k w' => Rd Try.prog WS.any (sBin .neq 3 false t33 t41) fun v => k v w') (fun t43 w44 =>
     za_ t26 true (fun k w' => k t43 w') (fun t45 w46 =>
     za_ t45 false (fun k w' => k (f15 5) w') (fun t47 w48 =>
     za_ t45 false (fun k w' => Rd Try.prog WS.any (zu_ t47) fun v => k v w') (fun t49 w50 =>
     za_ t45 false (fun k w' => Rd Try.prog WS.any (zb_ 156 t49 5) fun v => k v w') (fun t51 w52 =>
     za_ t45 false (fun k w' => Rd Try.prog (WS.at w16.drew) (zc_ 3 t51) fun v => k v w') (fun t53 w54 =>
     za_ t45 false (fun k w' => k t19 w') (fun t55 w56 =>
     za_ t45 false (fun k w' => Rd Try.prog WS.any (zu_ t55) fun v => k v w') (fun t57 w58 =>
     za_ t45 false (fun k w' => Rd Try.prog WS.any (zb_ 156 t57 5) fun v => k v w') (fun t59 w60 =>
     za_ t45 false (fun k w' => Rd Try.prog (WS.at w16.drew) (zc_ 3 t59) fun v => k v w') (fun t61 w62 =>
     za_ t45 false (fun k w' => Rd Try.prog WS.any (sBin .neq 3 false t53 t61) fun v => k v w') (fun t63 w64 =>
     za_ t26 true (fun k w' => Rd Try.prog WS.any (zw_ t45 (.bool true) t63) fun v => k v w') (fun t65 w66 =>
     Rd Try.prog WS.any (zw_ t26 t65 (.bool false)) fun t67 =>
     zi_ t67
      (Q14 .ret (F.upd (F.upd (F.upd (F.upd (F.upd (F.upd (F.upd (F.upd (F.upd (F.upd (F.upd (F.upd (F.upd (F.upd (F.upd (F.upd (F.upd (F.upd (F.upd (F.upd (F.upd (F.upd (F.upd (F.upd (F.upd (F.upd (F.upd (F.upd (F.upd (F.upd (F.upd (F.upd (F.upd (F.upd (F.upd (F.upd (F.upd (F.upd (F.upd f15 20 t17) 21 t18) 22 t19) 7 t19) 23 (f15 5)) 24 t20) 25 t21) 26 t22) 27 t19) 28 t23) 29 t24) 30 t25) 31 t26) 32 t26) 33 t27) 34 t29) 35 t31) 36 t33) 37 t35) 38 t37) 39 t39) 40 t41) 41 t43) 42 t45) 43 t47) 44 t49) 45 t51) 46 t53) 47 t55) 48 t57) 49 t59) 50 t61) 51 t63) 52 t65) 53 t67) 54 (f15 5)) 55 t19) 2 (f15 5)) 3 t19) w66)
      (Rd Try.prog (WS.at w66) (sBin .add 3 true (f15 19) (.int .i64 1)) fun t68 =>
      Q14 .normal (F.upd (F.upd (F.upd (F.upd (F.upd (F.upd (F.upd (F.upd (F.upd (F.upd (F.upd (F.upd (F.upd (F.upd (F.upd (F.upd (F.upd (F.upd (F.upd (F.upd (F.upd (F.upd (F.upd (F.upd (F.upd (F.upd (F.upd (F.upd (F.upd (F.upd (F.upd (F.upd (F.upd (F.upd (F.upd (F.upd (F.upd f15 20 t17) 21 t18) 22 t19) 7 t19) 23 (f15 5)) 24 t20) 25 t21) 26 t22) 27 t19) 28 t23) 29 t24) 30 t25) 31 t26) 32 t26) 33 t27) 34 t29) 35 t31) 36 t33) 37 t35) 38 t37) 39 t39) 40 t41) 41 t43) 42 t45) 43 t47) 44 t49) 45 t51) 46 t53) 47 t55) 48 t57) 49 t59) 50 t61) 51 t63) 52 t65) 53 t67) 56 t68) 19 t68) w66)) w64) w62) w60) w58) w56) w54) w52) w50) w48) w46) w44) w42) w40) w38) w36) w34) w32) w30) w28) w16.drew)
     (Q14 (.exit 2) (F.upd f15 20 t17) w16))
    (zt_ 2 (zt_ 1 (seqQ (fun f69 w70 =>
   Rd Try.prog (WS.at w70) (sBin .add 3 true (f69 11) (.int .i64 1)) fun t71 =>
   Q4 .normal (F.upd (F.upd f69 57 t71) 11 t71) w70) Q4)))
    (F.upd (F.upd (F.upd (F.upd (F.upd (F.upd (F.upd (F.upd (F.upd f5 12 t7) 13 t8) 14 t9) 5 t9) 15 t9) 16 t10) 17 t12) 18 t13) 19 (.int .i64 0)) w11) w6)
   (Q4 (.exit 0) (F.upd f5 12 t7) w6))
  (zt_ 0 (seqQ (fun f72 w73 =>
 k (.tuple #[(.pointer none), (.pointer none)]) w73) (zr_ Try.prog [.tmp 2, .tmp 3] k)))
  (F.upd (F.upd (F.upd (F.upd (F.upd (F.upd (zm_ [v0]) 2 (.pointer none)) 3 (.pointer none)) 8 v0) 9 t1) 10 t3) 11 (.int .i64 0)) w2) w
theorem body222 : Try.f222.body = some (zg_ Try.f222) := by kernel_rfl
theorem same222 (v0 : Value) (k : Value → World → Prop) (w : World) : wpF Try.prog pl222 (zg_ Try.f222) (zr_ Try.prog Try.f222.results.toList k) (zm_ [v0]) w = S222 v0 k w := by kernel_rfl
theorem enter222 {v0 : Value} {k : Value → World → Prop} {w : World} (h : S222 v0 k w) : CallK Try.prog 222 [v0] k w :=
  call_of_wpF (pl := pl222) zab_ Try.func222 body222 (by kernel_rfl) (of_decide_eq_true (by kernel_rfl)) (by kernel_rfl) (by kernel_rfl) (Eq.mpr (same222 v0 k w) h)

def pl225 : Plans := fun i => match i with
  | 1 => ⟨true, [9], .step 0 .any (.step 1 .held (.step 2 .any (.step 3 .any (.step 4 .any (.step 5 .held (.step 6 .any (.step 7 .held (.step 8 .one (.step 9 .last (.nil))))))))))⟩
  | _ => ⟨false, [], .nil⟩
def S225 (v0 v1 v2 v3 : Value) (k : Value → World → Prop) (w : World) : Prop :=
 Do Try.prog (sBox 26 v0) (fun t1 w2 =>
 ∃ U3 : World → Prop, ∃ h4 : U3 w2.drew,
 Rd Try.prog WS.any (zb_ 26 t1 2) fun t5 =>
 Rd Try.prog ⟨U3, w2.drew, h4⟩ (zc_ 24 t5) fun t6 =>
 Rd Try.prog WS.any (zd_ 27 v1 v2) fun t7 =>
 Rd Try.prog ⟨U3, w2.drew, h4⟩ (zc_ 3 t7) fun t8 =>
 Rd Try.prog WS.any (zd_ 24 t6 t8) fun t9 =>
 Rd Try.prog ⟨U3, w2.drew, h4⟩ (zc_ 33 t9) fun t10 =>
 Do Try.prog (zvb_ 33) (fun t11 w12 =>
 U3 w12 ∧ Do Try.prog (zx_ 33 t11 t10) (fun _ w13 =>
 Rd Try.prog (WS.at w13) (zb_ 33 t11 0) fun t14 =>
 Rd Try.prog (WS.at w13) (zc_ 3 t14) fun t15 =>
 Do Try.prog (zh_ 27 4 [(0, t15), (1, (.int .i64 0)), (2, v3), (3, (.int .i64 0))]) (fun t16 w17 =>
 Do Try.prog (zh_ 35 1 [(0, t16)]) (fun t18 w19 =>
 Rd Try.prog (WS.at w19) (zb_ 33 t11 1) fun t20 =>
 Rd Try.prog (WS.at w19) (zc_ 27 t20) fun t21 =>
 Rd Try.prog (WS.at w19) (ze_ .len #[27] 3 [false] [t21]) fun t22 =>
 zfb_ [35, 36, 37, 14, 38, 39, 40, 41, 12, 43, 44, 45, 46, 47, 48, 49, 50, 42, 51, 52, 15, 16, 53, 54, 55, 11, 56, 12, 57, 34] (fun Q23 f24 w25 =>
  Rd Try.prog (WS.at w25) (sBin .lss 3 false (f24 34) (f24 33)) fun t26 =>
  zi_ t26
   (Join (fun K27 =>
   Rd Try.prog (WS.at w25) (zd_ 27 (f24 32) (f24 34)) fun t30 =>
   Rd Try.prog (WS.at w25) (zc_ 3 t30) fun t31 =>
   Rd Try.prog (WS.at w25) (sBin .lss 3 true t31 (.int .i64 0)) fun t32 =>
   zi_ t32
    (Rd Try.prog (WS.at w25) (sBin .add 3 true (f24 12) (.int .i64 1)) fun t33 =>
    K27 (F.upd (F.upd (F.upd (F.upd (F.upd (F.upd (F.upd (F.upd (F.upd f24 35 t26) 36 t30) 37 t31) 14 t31) 38 t31) 39 t32) 40 (f24 12)) 41 t33) 12 t33) w25)
    (Rd Try.prog (WS.at w25) (zc_ 26 (f24 4)) fun t34 =>
    Rd Try.prog (WS.at w25) (ze_ .len #[35] 3 [false] [(f24 11)]) fun t35 =>
    Rd Try.prog (WS.at w25) (sBin .add 3 false (f24 2) t35) fun t36 =>
    CallK Try.prog 225 [t34, (f24 1), t36, (f24 12)] (fun t37 w38 =>
    Rd Try.prog (WS.at w38) (zk_ t37 0) fun t39 =>
    Rd Try.prog (WS.at w38) (zk_ t37 1) fun t40 =>
    Do Try.prog (ze_ .append #[35, 35] 35 [false, false] [(f24 11), t39]) (fun t41 w42 =>
    K27 (F.upd (F.upd (F.upd (F.upd (F.upd (F.upd (F.upd (F.upd (F.upd (F.upd (F.upd (F.upd (F.upd (F.upd (F.upd (F.upd (F.upd (F.upd (F.upd (F.upd (F.upd (F.upd (F.upd (F.upd (F.upd f24 35 t26) 36 t30) 37 t31) 14 t31) 38 t31) 39 t32) 43 t34) 44 (f24 1)) 45 (f24 2)) 46 (f24 11)) 47 t35) 48 t36) 49 (f24 12)) 50 t37) 42 t37) 51 t39) 52 t40) 15 t39) 16 t40) 53 (f24 11)) 54 t39) 55 t41) 11 t41) 56 t40) 12 t40) w42) w38) w25)) (fun f28 w29 =>
   Rd Try.prog (WS.at w29) (sBin .add 3 true (f28 34) (.int .i64 1)) fun t43 =>
   Q23 .normal (F.upd (F.upd f28 57 t43) 34 t43) w29))
   (Q23 (.exit 0) (F.upd f24 35 t26) w25))
  (zt_ 0 (seqQ (fun f44 w45 =>
 Rd Try.prog (WS.at w45) (zd_ 35 (f44 11) (.int .i64 0)) fun t46 =>
 Rd Try.prog (WS.at w45) (zc_ 27 t46) fun t47 =>
 Rd Try.prog (WS.at w45) (ze_ .len #[35] 3 [false] [(f44 11)]) fun t48 =>
 Rd Try.prog (WS.at w45) (sBin .add 3 false (f44 2) t48) fun t49 =>
 Rd Try.prog (WS.at w45) (zd_ 27 t47 (.int .i64 1)) fun t50 =>
 Do Try.prog (zx_ 3 t50 t49) (fun _ w51 =>
 Rd Try.prog (WS.at w51) (zd_ 35 (f44 11) (.int .i64 0)) fun t52 =>
 Rd Try.prog (WS.at w51) (zc_ 27 t52) fun t53 =>
 Rd Try.prog (WS.at w51) (zd_ 27 t53 (.int .i64 3)) fun t54 =>
 Do Try.prog (zx_ 3 t54 (f44 12)) (fun _ w55 =>
 k (.tuple #[(f44 11), (f44 12)]) w55) w51) w45) (zr_ Try.prog [.tmp 8, .tmp 9] k)))
  (F.upd (F.upd (F.upd (F.upd (F.upd (F.upd (F.upd (F.upd (F.upd (F.upd (F.upd (F.upd (F.upd (F.upd (F.upd (F.upd (F.upd (F.upd (F.upd (F.upd (F.upd (F.upd (F.upd (F.upd (zm_ [v0, v1, v2, v3]) 4 t1) 8 (.slice none 0 0)) 9 (.int .i64 0)) 17 t5) 18 t6) 19 v1) 20 v2) 21 t7) 22 t8) 23 t9) 24 t10) 10 t11) 25 t14) 26 t15) 27 v3) 28 t16) 29 t18) 11 t18) 30 v3) 12 v3) 31 t20) 32 t21) 33 t22) 34 (.int .i64 0)) w19) w17) w13) w12) w2.drew) w
theorem body225 : Try.f225.body = some (zg_ Try.f225) := by kernel_rfl
theorem same225 (v0 v1 v2 v3 : Value) (k : Value → World → Prop) (w : World) : wpF Try.prog pl225 (zg_ Try.f225) (zr_ Try.prog Try.f225.results.toList k) (zm_ [v0, v1, v2, v3]) w = S225 v0 v1 v2 v3 k w := by kernel_rfl
theorem enter225 {v0 v1 v2 v3 : Value} {k : Value → World → Prop} {w : World} (h : S225 v0 v1 v2 v3 k w) : CallK Try.prog 225 [v0, v1, v2, v3] k w :=
  call_of_wpF (pl := pl225) zab_ Try.func225 body225 (by kernel_rfl) (of_decide_eq_true (by kernel_rfl)) (by kernel_rfl) (by kernel_rfl) (Eq.mpr (same225 v0 v1 v2 v3 k w) h)

def pl227 : Plans := fun _ => ⟨false, [], .nil⟩
def S227 (v0 : Value) (k : Value → World → Prop) (w : World) : Prop :=
 Do Try.prog (zh_ 154 1 [(0, v0)]) (fun t1 w2 =>
 Rd Try.prog (WS.at w2) (zu_ v0) fun t3 =>
 Rd Try.prog (WS.at w2) (zb_ 156 t3 6) fun t4 =>
 Rd Try.prog (WS.at w2) (zc_ 154 t4) fun t5 =>
 Rd Try.prog (WS.at w2) (ze_ .len #[154] 3 [false] [t5]) fun t6 =>
 zfb_ [14, 15, 16, 5, 17, 18, 19, 20, 3, 21, 13] (fun Q7 f8 w9 =>
  Rd Try.prog (WS.at w9) (sBin .lss 3 false (f8 13) (f8 12)) fun t10 =>
  zi_ t10
   (Rd Try.prog (WS.at w9) (zd_ 154 (f8 11) (f8 13)) fun t11 =>
   Rd Try.prog (WS.at w9) (zc_ 151 t11) fun t12 =>
   CallK Try.prog 227 [t12] (fun t13 w14 =>
   Do Try.prog (ze_ .append #[154, 154] 154 [false, false] [(f8 3), t13]) (fun t15 w16 =>
   Rd Try.prog (WS.at w16) (sBin .add 3 true (f8 13) (.int .i64 1)) fun t17 =>
   Q7 .normal (F.upd (F.upd (F.upd (F.upd (F.upd (F.upd (F.upd (F.upd (F.upd (F.upd (F.upd f8 14 t10) 15 t11) 16 t12) 5 t12) 17 (f8 3)) 18 t12) 19 t13) 20 t15) 3 t15) 21 t17) 13 t17) w16) w14) w9)
   (Q7 (.exit 0) (F.upd f8 14 t10) w9))
  (zt_ 0 (seqQ (fun f18 w19 =>
 k (f18 3) w19) (zr_ Try.prog [.tmp 2] k)))
  (F.upd (F.upd (F.upd (F.upd (F.upd (F.upd (F.upd (F.upd (F.upd (F.upd (zm_ [v0]) 2 (.slice none 0 0)) 6 v0) 7 t1) 3 t1) 8 v0) 9 t3) 10 t4) 11 t5) 12 t6) 13 (.int .i64 0)) w2) w
theorem body227 : Try.f227.body = some (zg_ Try.f227) := by kernel_rfl
theorem same227 (v0 : Value) (k : Value → World → Prop) (w : World) : wpF Try.prog pl227 (zg_ Try.f227) (zr_ Try.prog Try.f227.results.toList k) (zm_ [v0]) w = S227 v0 k w := by kernel_rfl
theorem enter227 {v0 : Value} {k : Value → World → Prop} {w : World} (h : S227 v0 k w) : CallK Try.prog 227 [v0] k w :=
  call_of_wpF (pl := pl227) zab_ Try.func227 body227 (by kernel_rfl) (of_decide_eq_true (by kernel_rfl)) (by kernel_rfl) (by kernel_rfl) (Eq.mpr (same227 v0 k w) h)

def pl294 : Plans := fun _ => ⟨false, [], .nil⟩
def S294 (v0 v1 v2 : Value) (k : Value → World → Prop) (w : World) : Prop :=
 Do Try.prog (sBox 26 v0) (fun t1 w2 =>
 Rd Try.prog (WS.at w2) (zc_ 26 t1) fun t3 =>
 CallK Try.prog 127 [t3] (fun t4 w5 =>
 za_ t4 true (fun k w' => k v1 w') (fun t6 w7 =>
 za_ t4 true (fun k w' => Rd Try.prog (WS.at w7) (zb_ 26 t1 0) fun v => k v w') (fun t8 w9 =>
 za_ t4 true (fun k w' => Rd Try.prog (WS.at w9) (zc_ 3 t8) fun v => k v w') (fun t10 w11 =>
 za_ t4 true (fun k w' => Rd Try.prog (WS.at w11) (sBin .sub 3 true t10 (.int .i64 1)) fun v => k v w') (fun t12 w13 =>
 za_ t4 true (fun k w' => CallK Try.prog 152 [t6, (.int .i64 0), t12] k w') (fun t14 w15 =>
 Rd Try.prog (WS.at w15) (zw_ t4 t14 (.bool false)) fun t16 =>
 za_ t16 true (fun k w' => k v2 w') (fun t17 w18 =>
 za_ t16 true (fun k w' => Rd Try.prog (WS.at w18) (ze_ .len #[27] 3 [false] [t17]) fun v => k v w') (fun t19 w20 =>
 za_ t16 true (fun k w' => Rd Try.prog (WS.at w20) (sBin .leq 3 true t19 (.int .i64 60)) fun v => k v w') (fun t21 w22 =>
 Rd Try.prog (WS.at w22) (zw_ t16 t21 (.bool false)) fun t23 =>
 k t23 w22) w20) w18) w15) w13) w11) w9) w7) w5) w2) w
theorem body294 : Try.f294.body = some (zg_ Try.f294) := by kernel_rfl
theorem same294 (v0 v1 v2 : Value) (k : Value → World → Prop) (w : World) : wpF Try.prog pl294 (zg_ Try.f294) (zr_ Try.prog Try.f294.results.toList k) (zm_ [v0, v1, v2]) w = S294 v0 v1 v2 k w := by kernel_rfl
theorem enter294 {v0 v1 v2 : Value} {k : Value → World → Prop} {w : World} (h : S294 v0 v1 v2 k w) : CallK Try.prog 294 [v0, v1, v2] k w :=
  call_of_wpF (pl := pl294) zab_ Try.func294 body294 (by kernel_rfl) (of_decide_eq_true (by kernel_rfl)) (by kernel_rfl) (by kernel_rfl) (Eq.mpr (same294 v0 v1 v2 k w) h)

def pl295 : Plans := fun _ => ⟨false, [], .nil⟩
def S295 (v0 v1 v2 : Value) (k : Value → World → Prop) (w : World) : Prop :=
 Do Try.prog (sBox 26 v0) (fun t1 w2 =>
 Rd Try.prog (WS.at w2) (ze_ .len #[27] 3 [false] [v2]) fun t3 =>
 Rd Try.prog (WS.at w2) (sBin .gtr 3 true t3 (.int .i64 0)) fun t4 =>
 za_ t4 true (fun k w' => Rd Try.prog (WS.at w2) (zc_ 26 t1) fun v => k v w') (fun t5 w6 =>
 za_ t4 true (fun k w' => k v1 w') (fun t7 w8 =>
 za_ t4 true (fun k w' => k v2 w') (fun t9 w10 =>
 za_ t4 true (fun k w' => CallK Try.prog 317 [t5, t7, t9, (.int .i64 0)] k w') (fun t11 w12 =>
 za_ t4 true (fun k w' => k v2 w') (fun t13 w14 =>
 za_ t4 true (fun k w' => Rd Try.prog (WS.at w14) (ze_ .len #[27] 3 [false] [t13]) fun v => k v w') (fun t15 w16 =>
 za_ t4 true (fun k w' => Rd Try.prog (WS.at w16) (sBin .eql 3 false t11 t15) fun v => k v w') (fun t17 w18 =>
 Rd Try.prog (WS.at w18) (zw_ t4 t17 (.bool false)) fun t19 =>
 k t19 w18) w16) w14) w12) w10) w8) w6) w2) w
theorem body295 : Try.f295.body = some (zg_ Try.f295) := by kernel_rfl
theorem same295 (v0 v1 v2 : Value) (k : Value → World → Prop) (w : World) : wpF Try.prog pl295 (zg_ Try.f295) (zr_ Try.prog Try.f295.results.toList k) (zm_ [v0, v1, v2]) w = S295 v0 v1 v2 k w := by kernel_rfl
theorem enter295 {v0 v1 v2 : Value} {k : Value → World → Prop} {w : World} (h : S295 v0 v1 v2 k w) : CallK Try.prog 295 [v0, v1, v2] k w :=
  call_of_wpF (pl := pl295) zab_ Try.func295 body295 (by kernel_rfl) (of_decide_eq_true (by kernel_rfl)) (by kernel_rfl) (by kernel_rfl) (Eq.mpr (same295 v0 v1 v2 k w) h)

def pl179 : Plans := fun i => match i with
  | 5 => ⟨false, [], .step 0 .any (.step 1 .held (.step 2 .any (.step 3 .any (.step 4 .any (.step 5 .any (.nil))))))⟩
  | _ => ⟨false, [], .nil⟩
def S179 (v0 v1 v2 : Value) (k : Value → World → Prop) (w : World) : Prop :=
 Do Try.prog (sBox 26 v0) (fun t1 w2 =>
 Do Try.prog (sBox 27 v2) (fun t3 w4 =>
 Do Try.prog (zh_ 27 0 []) (fun t5 w6 =>
 Do Try.prog (zvb_ 27) (fun t7 w8 =>
 Do Try.prog (zx_ 27 t7 t5) (fun _ w9 =>
 Do Try.prog (zvb_ 220) (fun t10 w11 =>
 Rd Try.prog (WS.at w11) (zfg_ (.func 260) [] [t3, t1, t7, t10]) fun t12 =>
 Do Try.prog (zx_ 220 t10 t12) (fun _ w13 =>
 Rd Try.prog (WS.at w13) (zc_ 220 t10) fun t14 =>
 Do Try.prog (zif_ t14 [v1, (.int .i64 0)] 221) (fun t15 w16 =>
 Rd Try.prog (WS.at w16) (zk_ t15 0) fun t17 =>
 Rd Try.prog (WS.at w16) (zk_ t15 1) fun t18 =>
 Rd Try.prog (WS.at w16.drew) (zc_ 27 t7) fun t19 =>
 k (.tuple #[t17, t19, t18]) w16.drew) w13) w11) w9) w8) w6) w4) w2) w
theorem body179 : Try.f179.body = some (zg_ Try.f179) := by kernel_rfl
theorem same179 (v0 v1 v2 : Value) (k : Value → World → Prop) (w : World) : wpF Try.prog pl179 (zg_ Try.f179) (zr_ Try.prog Try.f179.results.toList k) (zm_ [v0, v1, v2]) w = S179 v0 v1 v2 k w := by kernel_rfl
theorem enter179 {v0 v1 v2 : Value} {k : Value → World → Prop} {w : World} (h : S179 v0 v1 v2 k w) : CallK Try.prog 179 [v0, v1, v2] k w :=
  call_of_wpF (pl := pl179) zab_ Try.func179 body179 (by kernel_rfl) (of_decide_eq_true (by kernel_rfl)) (by kernel_rfl) (by kernel_rfl) (Eq.mpr (same179 v0 v1 v2 k w) h)

def pl317 : Plans := fun i => match i with
  | 1 => ⟨true, [], .step 0 .any (.step 1 .any (.step 2 .any (.step 3 .any (.step 4 .any (.step 5 .any (.step 6 .any (.step 7 .any (.step 8 .held (.step 9 .any (.step 10 .held (.step 11 .any (.step 12 .any (.step 13 .one (.step 14 .any (.step 15 .any (.step 16 .any (.step 17 .any (.step 18 .held (.step 19 .any (.step 20 .any (.step 21 .any (.step 22 .held (.step 23 .any (.step 24 .any (.step 25 .held (.step 26 .any (.step 27 .any (.step 28 .any (.nil)))))))))))))))))))))))))))))⟩
  | 4 => ⟨false, [], .step 0 .any (.step 1 .held (.step 2 .any (.step 3 .any (.step 4 .any (.step 5 .held (.step 6 .any (.step 7 .any (.step 8 .held (.step 9 .any (.step 10 .any (.nil)))))))))))⟩
  | _ => ⟨false, [], .nil⟩
def S317 (v0 v1 v2 v3 : Value) (k : Value → World → Prop) (w : World) : Prop :=
 Do Try.prog (sBox 26 v0) (fun t1 w2 =>
 ∃ U3 : World → Prop, ∃ h4 : U3 w2.drew,
 Rd Try.prog WS.any (ze_ .len #[27] 3 [false] [v2]) fun t5 =>
 Rd Try.prog WS.any (sBin .geq 3 false v3 t5) fun t6 =>
 za_ t6 false (fun k w' => k v2 w') (fun t7 w8 =>
 za_ t6 false (fun k w' => k v3 w') (fun t9 w10 =>
 za_ t6 false (fun k w' => Rd Try.prog WS.any (zd_ 27 t7 t9) fun v => k v w') (fun t11 w12 =>
 za_ t6 false (fun k w' => Rd Try.prog ⟨U3, w2.drew, h4⟩ (zc_ 3 t11) fun v => k v w') (fun t13 w14 =>
 za_ t6 false (fun k w' => Rd Try.prog WS.any (zb_ 26 t1 2) fun v => k v w') (fun t15 w16 =>
 za_ t6 false (fun k w' => Rd Try.prog ⟨U3, w2.drew, h4⟩ (zc_ 24 t15) fun v => k v w') (fun t17 w18 =>
 za_ t6 false (fun k w' => Rd Try.prog WS.any (ze_ .len #[24] 3 [false] [t17]) fun v => k v w') (fun t19 w20 =>
 za_ t6 false (fun k w' => Rd Try.prog WS.any (sBin .sub 3 true t19 (.int .i64 1)) fun v => k v w') (fun t21 w22 =>
 za_ t6 false (fun k w' => CallK Try.prog 152 [t13, (.int .i64 0), t21] k w') (fun t23 w24 =>
 U3 w24 ∧ za_ t6 false (fun k w' => Rd Try.prog WS.any (sUn .not t23) fun v => k v w') (fun t25 w26 =>
 Rd Try.prog WS.any (zw_ t6 (.bool true) t25) fun t27 =>
 za_ t27 false (fun k w' => Rd Try.prog WS.any (zb_ 26 t1 2) fun v => k v w') (fun t28 w29 =>
 za_ t27 false (fun k w' => Rd Try.prog ⟨U3, w2.drew, h4⟩ (zc_ 24 t28) fun v => k v w') (fun t30 w31 =>
 za_ t27 false (fun k w' => k v2 w') (fun t32 w33 =>
 za_ t27 false (fun k w' => k v3 w') (fun t34 w35 =>
 za_ t27 false (fun k w' => Rd Try.prog WS.any (zd_ 27 t32 t34) fun v => k v w') (fun t36 w37 =>
 za_ t27 false (fun k w' => Rd Try.prog ⟨U3, w2.drew, h4⟩ (zc_ 3 t36) fun v => k v w') (fun t38 w39 =>
 za_ t27 false (fun k w' => Rd Try.prog WS.any (zd_ 24 t30 t38) fun v => k v w') (fun t40 w41 =>
 za_ t27 false (fun k w' => Rd Try.prog WS.any (zb_ 33 t40 0) fun v => k v w') (fun t42 w43 =>
 za_ t27 false (fun k w' => Rd Try.prog ⟨U3, w2.drew, h4⟩ (zc_ 3 t42) fun v => k v w') (fun t44 w45 =>
 za_ t27 false (fun k w' => k v1 w') (fun t46 w47 =>
 za_ t27 false (fun k w' => Rd Try.prog WS.any (sBin .neq 3 false t44 t46) fun v => k v w') (fun t48 w49 =>
 Rd Try.prog WS.any (zw_ t27 (.bool true) t48) fun t50 =>
 zi_ t50
  (k (.int .i64 (-1)) w49)
  (Rd Try.prog (WS.at w49) (sBin .add 3 true v3 (.int .i64 1)) fun t51 =>
  Rd Try.prog WS.any (zb_ 26 t1 2) fun t52 =>
  Rd Try.prog (WS.at w49.drew) (zc_ 24 t52) fun t53 =>
  Rd Try.prog WS.any (zd_ 27 v2 v3) fun t54 =>
  Rd Try.prog (WS.at w49.drew) (zc_ 3 t54) fun t55 =>
  Rd Try.prog WS.any (zd_ 24 t53 t55) fun t56 =>
  Rd Try.prog WS.any (zb_ 33 t56 1) fun t57 =>
  Rd Try.prog (WS.at w49.drew) (zc_ 27 t57) fun t58 =>
  Rd Try.prog WS.any (ze_ .len #[27] 3 [false] [t58]) fun t59 =>
  zfb_ [54, 55, 56, 11, 57, 58, 59, 60, 61, 62, 63, 9, 64, 65, 8, 66, 53] (fun Q60 f61 w62 =>
   Rd Try.prog (WS.at w62) (sBin .lss 3 false (f61 53) (f61 52)) fun t63 =>
   zi_ t63
    (Join (fun K64 =>
    Rd Try.prog (WS.at w62) (zd_ 27 (f61 51) (f61 53)) fun t67 =>
    Rd Try.prog (WS.at w62) (zc_ 3 t67) fun t68 =>
    Rd Try.prog (WS.at w62) (sBin .lss 3 true t68 (.int .i64 0)) fun t69 =>
    zi_ t69
     (K64 (F.upd (F.upd (F.upd (F.upd (F.upd (F.upd f61 54 t63) 55 t67) 56 t68) 11 t68) 57 t68) 58 t69) w62)
     (Rd Try.prog (WS.at w62) (zc_ 26 (f61 4)) fun t70 =>
     CallK Try.prog 317 [t70, t68, (f61 2), (f61 9)] (fun t71 w72 =>
     Rd Try.prog (WS.at w72) (sBin .lss 3 true t71 (.int .i64 0)) fun t73 =>
     zi_ t73
      (Q60 .ret (F.upd (F.upd (F.upd (F.upd (F.upd (F.upd (F.upd (F.upd (F.upd (F.upd (F.upd (F.upd (F.upd (F.upd (F.upd f61 54 t63) 55 t67) 56 t68) 11 t68) 57 t68) 58 t69) 59 t70) 60 t68) 61 (f61 2)) 62 (f61 9)) 63 t71) 9 t71) 64 t71) 65 t73) 8 (.int .i64 (-1))) w72)
      (K64 (F.upd (F.upd (F.upd (F.upd (F.upd (F.upd (F.upd (F.upd (F.upd (F.upd (F.upd (F.upd (F.upd (F.upd f61 54 t63) 55 t67) 56 t68) 11 t68) 57 t68) 58 t69) 59 t70) 60 t68) 61 (f61 2)) 62 (f61 9)) 63 t71) 9 t71) 64 t71) 65 t73) w72)) w62)) (fun f65 w66 =>
    Rd Try.prog (WS.at w66) (sBin .add 3 true (f65 53) (.int .i64 1)) fun t74 =>
    Q60 .normal (F.upd (F.upd f65 66 t74) 53 t74) w66))
    (Q60 (.exit 0) (F.upd f61 54 t63) w62))
   (zt_ 0 (seqQ (fun f75 w76 =>
  k (f75 9) w76) (zr_ Try.prog [.tmp 8] k)))
   (F.upd (F.upd (F.upd (F.upd (F.upd (F.upd (F.upd (F.upd (F.upd (F.upd (F.upd (F.upd (F.upd (F.upd (F.upd (F.upd (F.upd (F.upd (F.upd (F.upd (F.upd (F.upd (F.upd (F.upd (F.upd (F.upd (F.upd (F.upd (F.upd (F.upd (F.upd (F.upd (F.upd (F.upd (F.upd (F.upd (F.upd (F.upd (F.upd (F.upd (F.upd (F.upd (F.upd (F.upd (F.upd (zm_ [v0, v1, v2, v3]) 4 t1) 8 (.int .i64 0)) 12 v3) 13 v2) 14 t5) 15 t6) 16 t6) 17 t7) 18 t9) 19 t11) 20 t13) 21 t15) 22 t17) 23 t19) 24 t21) 25 t23) 26 t25) 27 t27) 28 t27) 29 t28) 30 t30) 31 t32) 32 t34) 33 t36) 34 t38) 35 t40) 36 t42) 37 t44) 38 t46) 39 t48) 40 t50) 41 v3) 42 t51) 9 t51) 43 t52) 44 t53) 45 v2) 46 v3) 47 t54) 48 t55) 49 t56) 50 t57) 51 t58) 52 t59) 53 (.int .i64 0)) w49.drew)) w47) w45) w43) w41) w39) w37) w35) w33) w31) w29) w26) w24) w22) w20) w18) w16) w14) w12) w10) w8) w2.drew) w
theorem body317 : Try.f317.body = some (zg_ Try.f317) := by kernel_rfl
theorem same317 (v0 v1 v2 v3 : Value) (k : Value → World → Prop) (w : World) : wpF Try.prog pl317 (zg_ Try.f317) (zr_ Try.prog Try.f317.results.toList k) (zm_ [v0, v1, v2, v3]) w = S317 v0 v1 v2 v3 k w := by kernel_rfl
theorem enter317 {v0 v1 v2 v3 : Value} {k : Value → World → Prop} {w : World} (h : S317 v0 v1 v2 v3 k w) : CallK Try.prog 317 [v0, v1, v2, v3] k w :=
  call_of_wpF (pl := pl317) zab_ Try.func317 body317 (by kernel_rfl) (of_decide_eq_true (by kernel_rfl)) (by kernel_rfl) (by kernel_rfl) (Eq.mpr (same317 v0 v1 v2 v3 k w) h)

def pl260 : Plans := fun i => match i with
  | 1 => ⟨true, [], .step 0 .any (.step 1 .held (.step 2 .any (.step 3 .any (.step 4 .any (.step 5 .held (.step 6 .any (.step 7 .any (.step 8 .held (.step 9 .any (.step 10 .held (.step 11 .any (.step 12 .any (.step 13 .one (.step 14 .any (.step 15 .any (.step 16 .any (.step 17 .any (.step 18 .held (.step 19 .held (.step 20 .any (.step 21 .any (.step 22 .held (.step 23 .any (.step 24 .any (.step 25 .held (.step 26 .any (.step 27 .any (.step 28 .any (.nil)))))))))))))))))))))))))))))⟩
  | 3 => ⟨false, [11], .step 0 .any (.step 1 .held (.step 2 .any (.step 3 .any (.step 4 .held (.step 5 .any (.step 6 .any (.step 7 .any (.step 8 .held (.step 9 .any (.step 10 .any (.step 11 .last (.step 12 .any (.nil)))))))))))))⟩
  | 4 => ⟨false, [], .step 0 .any (.step 1 .held (.step 2 .any (.step 3 .any (.step 4 .any (.step 5 .held (.step 6 .any (.step 7 .any (.step 8 .held (.step 9 .any (.step 10 .any (.nil)))))))))))⟩
  | 8 => ⟨true, [4, 5], .step 0 .held (.step 1 .any (.step 2 .one (.step 3 .one (.step 4 .last (.step 5 .last (.nil))))))⟩
  | 9 => ⟨false, [6], .step 0 .held (.step 1 .any (.step 2 .any (.step 3 .any (.step 4 .any (.step 5 .held (.step 6 .last (.step 7 .any (.step 8 .any (.step 9 .any (.step 10 .any (.step 11 .any (.nil))))))))))))⟩
  | _ => ⟨false, [], .nil⟩
def S260 (v0 v1 v2 v3 v4 v5 : Value) (k : Value → World → Prop) (w : World) : Prop :=
 ∃ U1 : World → Prop, ∃ h2 : U1 w.drew,
 Rd Try.prog ⟨U1, w.drew, h2⟩ (zc_ 27 v2) fun t3 =>
 Rd Try.prog WS.any (ze_ .len #[27] 3 [false] [t3]) fun t4 =>
 Rd Try.prog WS.any (sBin .geq 3 false v1 t4) fun t5 =>
 za_ t5 false (fun k w' => Rd Try.prog ⟨U1, w.drew, h2⟩ (zc_ 27 v2) fun v => k v w') (fun t6 w7 =>
 za_ t5 false (fun k w' => k v1 w') (fun t8 w9 =>
 za_ t5 false (fun k w' => Rd Try.prog WS.any (zd_ 27 t6 t8) fun v => k v w') (fun t10 w11 =>
 za_ t5 false (fun k w' => Rd Try.prog ⟨U1, w.drew, h2⟩ (zc_ 3 t10) fun v => k v w') (fun t12 w13 =>
 za_ t5 false (fun k w' => Rd Try.prog WS.any (zb_ 26 v3 2) fun v => k v w') (fun t14 w15 =>
 za_ t5 false (fun k w' => Rd Try.prog ⟨U1, w.drew, h2⟩ (zc_ 24 t14) fun v => k v w') (fun t16 w17 =>
 za_ t5 false (fun k w' => Rd Try.prog WS.any (ze_ .len #[24] 3 [false] [t16]) fun v => k v w') (fun t18 w19 =>
 za_ t5 false (fun k w' => Rd Try.prog WS.any (sBin .sub 3 true t18 (.int .i64 1)) fun v => k v w') (fun t20 w21 =>
 za_ t5 false (fun k w' => CallK Try.prog 149 [t12, (.int .i64 0), t20] k w') (fun t22 w23 =>
 U1 w23 ∧ za_ t5 false (fun k w' => Rd Try.prog WS.any (sUn .not t22) fun v => k v w') (fun t24 w25 =>
 Rd Try.prog WS.any (zw_ t5 (.bool true) t24) fun t26 =>
 za_ t26 false (fun k w' => Rd Try.prog WS.any (zb_ 26 v3 2) fun v => k v w') (fun t27 w28 =>
 za_ t26 false (fun k w' => Rd Try.prog ⟨U1, w.drew, h2⟩ (zc_ 24 t27) fun v => k v w') (fun t29 w30 =>
 za_ t26 false (fun k w' => Rd Try.prog ⟨U1, w.drew, h2⟩ (zc_ 27 v2) fun v => k v w') (fun t31 w32 =>
 za_ t26 false (fun k w' => k v1 w') (fun t33 w34 =>
 za_ t26 false (fun k w' => Rd Try.prog WS.any (zd_ 27 t31 t33) fun v => k v w') (fun t35 w36 =>
 za_ t26 false (fun k w' => Rd Try.prog ⟨U1, w.drew, h2⟩ (zc_ 3 t35) fun v => k v w') (fun t37 w38 =>
 za_ t26 false (fun k w' => Rd Try.prog WS.any (zd_ 24 t29 t37) fun v => k v w') (fun t39 w40 =>
 za_ t26 false (fun k w' => Rd Try.prog WS.any (zb_ 33 t39 0) fun v => k v w') (fun t41 w42 =>
 za_ t26 false (fun k w' => Rd Try.prog ⟨U1, w.drew, h2⟩ (zc_ 3 t41) fun v => k v w') (fun t43 w44 =>
 za_ t26 false (fun k w' => k v0 w') (fun t45 w46 =>
 za_ t26 false (fun k w' => Rd Try.prog WS.any (sBin .neq 3 false t43 t45) fun v => k v w') (fun t47 w48 =>
 Rd Try.prog WS.any (zw_ t26 (.bool true) t47) fun t49 =>
 zi_ t49
  (k (.tuple #[(.pointer none), (.bool false)]) w48)
  (Rd Try.prog (WS.at w48.drew) (zc_ 27 v2) fun t50 =>
  Rd Try.prog WS.any (zd_ 27 t50 v1) fun t51 =>
  Rd Try.prog (WS.at w48.drew) (zc_ 3 t51) fun t52 =>
  Rd Try.prog WS.any (sBin .add 3 true v1 (.int .i64 1)) fun t53 =>
  Rd Try.prog (WS.at w48.drew) (zc_ 27 v4) fun t54 =>
  Rd Try.prog WS.any (ze_ .len #[27] 3 [false] [t54]) fun t55 =>
  Rd Try.prog WS.any (zeb_ 156 [(0, v0), (1, t52), (2, v1), (3, t53), (4, t55)]) fun t56 =>
  Do Try.prog (sBox 156 t56) (fun t57 w58 =>
  Rd Try.prog WS.any (zb_ 26 v3 2) fun t59 =>
  Rd Try.prog (WS.at w58.drew) (zc_ 24 t59) fun t60 =>
  Rd Try.prog WS.any (zu_ t57) fun t61 =>
  Rd Try.prog WS.any (zb_ 156 t61 1) fun t62 =>
  Rd Try.prog (WS.at w58.drew) (zc_ 3 t62) fun t63 =>
  Rd Try.prog WS.any (zd_ 24 t60 t63) fun t64 =>
  Rd Try.prog WS.any (zb_ 33 t64 1) fun t65 =>
  Rd Try.prog (WS.at w58.drew) (zc_ 27 t65) fun t66 =>
  Rd Try.prog WS.any (ze_ .len #[27] 3 [false] [t66]) fun t67 =>
  zfb_ [67, 68, 69, 12, 70, 71, 72, 73, 74, 75, 76, 78, 79, 80, 81, 82, 83, 84, 77, 85, 86, 13, 14, 87, 88, 8, 9, 89, 90, 91, 92, 93, 94, 95, 96, 97, 98, 99, 100, 101, 102, 103, 104, 105, 106, 66] (fun Q68 f69 w70 =>
   Rd Try.prog (WS.at w70) (sBin .lss 3 false (f69 66) (f69 65)) fun t71 =>
   zi_ t71
    (Join (fun K72 =>
    Rd Try.prog (WS.at w70) (zd_ 27 (f69 64) (f69 66)) fun t75 =>
    Rd Try.prog (WS.at w70) (zc_ 3 t75) fun t76 =>
    Rd Try.prog (WS.at w70) (sBin .lss 3 true t76 (.int .i64 0)) fun t77 =>
    zi_ t77
     (∃ U78 : World → Prop, ∃ h79 : U78 w70.drew,
     Rd Try.prog ⟨U78, w70.drew, h79⟩ (zc_ 27 (f69 4)) fun t80 =>
     CallK Try.prog 254 [t76] (fun t81 w82 =>
     U78 w82 ∧ Do Try.prog (zh_ 27 1 [(0, t81)]) (fun t83 w84 =>
     U78 w84 ∧ Do Try.prog (ze_ .append #[27, 27] 27 [false, false] [t80, t83]) (fun t85 w86 =>
     Do Try.prog (zx_ 27 (f69 4) t85) (fun _ w87 =>
     K72 (F.upd (F.upd (F.upd (F.upd (F.upd (F.upd (F.upd (F.upd (F.upd (F.upd (F.upd f69 67 t71) 68 t75) 69 t76) 12 t76) 70 t76) 71 t77) 72 t80) 73 t76) 74 t81) 75 t83) 76 t85) w87) w86) w84) w82) w70.drew)
     (Rd Try.prog (WS.at w70.drew) (zc_ 220 (f69 5)) fun t88 =>
     Rd Try.prog WS.any (zu_ (f69 10)) fun t89 =>
     Rd Try.prog WS.any (zb_ 156 t89 3) fun t90 =>
     Rd Try.prog (WS.at w70.drew) (zc_ 3 t90) fun t91 =>
     Do Try.prog (zif_ t88 [t76, t91] 221) (fun t92 w93 =>
     Rd Try.prog WS.any (zk_ t92 0) fun t94 =>
     Rd Try.prog WS.any (zk_ t92 1) fun t95 =>
     Rd Try.prog (WS.at w93) (sUn .not t95) fun t96 =>
     zi_ t96
      (Q68 .ret (F.upd (F.upd (F.upd (F.upd (F.upd (F.upd (F.upd (F.upd (F.upd (F.upd (F.upd (F.upd (F.upd (F.upd (F.upd (F.upd (F.upd (F.upd (F.upd (F.upd (F.upd (F.upd f69 67 t71) 68 t75) 69 t76) 12 t76) 70 t76) 71 t77) 78 t88) 79 t76) 80 (f69 10)) 81 t89) 82 t90) 83 t91) 84 t92) 77 t92) 85 t94) 86 t95) 13 t94) 14 t95) 87 t95) 88 t96) 8 (.pointer none)) 9 (.bool false)) w93)
      (Rd Try.prog (WS.at w93) (zu_ (f69 10)) fun t97 =>
      Rd Try.prog (WS.at w93) (zb_ 156 t97 6) fun t98 =>
      Rd Try.prog (WS.at w93) (zc_ 154 t98) fun t99 =>
      Do Try.prog (zh_ 154 1 [(0, t94)]) (fun t100 w101 =>
      Do Try.prog (ze_ .append #[154, 154] 154 [false, false] [t99, t100]) (fun t102 w103 =>
      Rd Try.prog (WS.at w103) (zu_ (f69 10)) fun t104 =>
      Rd Try.prog (WS.at w103) (zb_ 156 t104 6) fun t105 =>
      Do Try.prog (zx_ 154 t105 t102) (fun _ w106 =>
      Rd Try.prog (WS.at w106) (zu_ t94) fun t107 =>
      Rd Try.prog (WS.at w106) (zb_ 156 t107 3) fun t108 =>
      Rd Try.prog (WS.at w106) (zc_ 3 t108) fun t109 =>
      Rd Try.prog (WS.at w106) (zu_ (f69 10)) fun t110 =>
      Rd Try.prog (WS.at w106) (zb_ 156 t110 3) fun t111 =>
      Do Try.prog (zx_ 3 t111 t109) (fun _ w112 =>
      K72 (F.upd (F.upd (F.upd (F.upd (F.upd (F.upd (F.upd (F.upd (F.upd (F.upd (F.upd (F.upd (F.upd (F.upd (F.upd (F.upd (F.upd (F.upd (F.upd (F.upd (F.upd (F.upd (F.upd (F.upd (F.upd (F.upd (F.upd (F.upd (F.upd (F.upd (F.upd (F.upd (F.upd (F.upd (F.upd (F.upd (F.upd f69 67 t71) 68 t75) 69 t76) 12 t76) 70 t76) 71 t77) 78 t88) 79 t76) 80 (f69 10)) 81 t89) 82 t90) 83 t91) 84 t92) 77 t92) 85 t94) 86 t95) 13 t94) 14 t95) 87 t95) 88 t96) 89 (f69 10)) 90 (f69 10)) 91 t97) 92 t98) 93 t99) 94 t94) 95 t100) 96 t102) 97 t104) 98 t105) 99 (f69 10)) 100 t94) 101 t107) 102 t108) 103 t109) 104 t110) 105 t111) w112) w106) w103) w101) w93)) w70.drew)) (fun f73 w74 =>
    Rd Try.prog (WS.at w74) (sBin .add 3 true (f73 66) (.int .i64 1)) fun t113 =>
    Q68 .normal (F.upd (F.upd f73 106 t113) 66 t113) w74))
    (Q68 (.exit 0) (F.upd f69 67 t71) w70))
   (zt_ 0 (seqQ (fun f114 w115 =>
  Rd Try.prog (WS.at w115) (zc_ 27 (f114 4)) fun t116 =>
  Rd Try.prog (WS.at w115) (ze_ .len #[27] 3 [false] [t116]) fun t117 =>
  Rd Try.prog (WS.at w115) (zu_ (f114 10)) fun t118 =>
  Rd Try.prog (WS.at w115) (zb_ 156 t118 5) fun t119 =>
  Do Try.prog (zx_ 3 t119 t117) (fun _ w120 =>
  k (.tuple #[(f114 10), (.bool true)]) w120) w115) (zr_ Try.prog [.tmp 8, .tmp 9] k)))
   (F.upd (F.upd (F.upd (F.upd (F.upd (F.upd (F.upd (F.upd (F.upd (F.upd (F.upd (F.upd (F.upd (F.upd (F.upd (F.upd (F.upd (F.upd (F.upd (F.upd (F.upd (F.upd (F.upd (F.upd (F.upd (F.upd (F.upd (F.upd (F.upd (F.upd (F.upd (F.upd (F.upd (F.upd (F.upd (F.upd (F.upd (F.upd (F.upd (F.upd (F.upd (F.upd (F.upd (F.upd (F.upd (F.upd (F.upd (F.upd (F.upd (F.upd (F.upd (F.upd (F.upd (F.upd (F.upd (zm_ [v0, v1, v2, v3, v4, v5]) 8 (.pointer none)) 9 (.bool false)) 15 v1) 16 t3) 17 t4) 18 t5) 19 t5) 20 t6) 21 t8) 22 t10) 23 t12) 24 t14) 25 t16) 26 t18) 27 t20) 28 t22) 29 t24) 30 t26) 31 t26) 32 t27) 33 t29) 34 t31) 35 t33) 36 t35) 37 t37) 38 t39) 39 t41) 40 t43) 41 t45) 42 t47) 43 t49) 44 v0) 45 t50) 46 v1) 47 t51) 48 t52) 49 v1) 50 v1) 51 t53) 52 t54) 53 t55) 54 t56) 55 t57) 10 t57) 56 t59) 57 t60) 58 t57) 59 t61) 60 t62) 61 t63) 62 t64) 63 t65) 64 t66) 65 t67) 66 (.int .i64 0)) w58.drew) w48.drew)) w46) w44) w42) w40) w38) w36) w34) w32) w30) w28) w25) w23) w21) w19) w17) w15) w13) w11) w9) w7) w.drew
theorem body260 : Try.f260.body = some (zg_ Try.f260) := by kernel_rfl
theorem same260 (v0 v1 v2 v3 v4 v5 : Value) (k : Value → World → Prop) (w : World) : wpF Try.prog pl260 (zg_ Try.f260) (zr_ Try.prog Try.f260.results.toList k) (zm_ [v0, v1, v2, v3, v4, v5]) w = S260 v0 v1 v2 v3 v4 v5 k w := by kernel_rfl
theorem enter260 {v0 v1 v2 v3 v4 v5 : Value} {k : Value → World → Prop} {w : World} (h : S260 v0 v1 v2 v3 v4 v5 k w) : CallK Try.prog 260 [v0, v1, v2, v3, v4, v5] k w :=
  call_of_wpF (pl := pl260) zab_ Try.func260 body260 (by kernel_rfl) (of_decide_eq_true (by kernel_rfl)) (by kernel_rfl) (by kernel_rfl) (Eq.mpr (same260 v0 v1 v2 v3 v4 v5 k w) h)

def pl254 : Plans := fun _ => ⟨false, [], .nil⟩
def S254 (v0 : Value) (k : Value → World → Prop) (w : World) : Prop :=
 Rd Try.prog (WS.at w) (sBin .sub 3 true (.int .i64 (-1)) v0) fun t1 =>
 k t1 w
theorem body254 : Try.f254.body = some (zg_ Try.f254) := by kernel_rfl
theorem same254 (v0 : Value) (k : Value → World → Prop) (w : World) : wpF Try.prog pl254 (zg_ Try.f254) (zr_ Try.prog Try.f254.results.toList k) (zm_ [v0]) w = S254 v0 k w := by kernel_rfl
theorem enter254 {v0 : Value} {k : Value → World → Prop} {w : World} (h : S254 v0 k w) : CallK Try.prog 254 [v0] k w :=
  call_of_wpF (pl := pl254) zab_ Try.func254 body254 (by kernel_rfl) (of_decide_eq_true (by kernel_rfl)) (by kernel_rfl) (by kernel_rfl) (Eq.mpr (same254 v0 k w) h)

end Go.Proofs.Ytegcjkhebecgbaa

namespace Go.Sh
open Go
def optI : Option Nat → Int
  | none => -1
  | some e => e
end Go.Sh
namespace Go.Proofs.Ytegcjkhebecgbaa
open Go Go.Sh Go.RowKit

theorem l11End_c {gm : Gram} {tree : List Int} {X : Option Addr} {c : Nat} (hg : zy_ gm = true) (ht : tree.length ≤ 1000) : ∀ (fu : Nat) {F : Nat → Prop} {w : World} {v : Value} {non : Int} {a : Nat} {k : Value → World → Prop}, GramV F w v gm → Ints w X tree → tree.length - a ≤ fu →
    (∀ w', Gr w w' → k (.int .i64 (optI (endT gm.rules tree fu non a))) w') → CallK Try.prog 317 [v, .int .i64 non, .slice X tree.length c, .int .i64 a] k w := by
  have hr16 := zhg_ hg
  intro fu
  induction fu with
  | zero =>
    intro F w v non a k hv hx hf hk
    obtain ⟨Y, cy, rfl, hc, hy⟩ := hv
    refine enter317 ?_
    unfold S317
    have H := Apt.nil w
    refine boxH H fun b1 w1 H => ?_
    have H := H.drew
    refine ⟨fun w' => Gr w1.drew w', Gr.refl _, ?_⟩
    simp only [go_sem, Nat.reduceEqDiff]
    simp only [show (tree.length : Int) ≤ a from by omega, decide_true, go_sem, Nat.reduceEqDiff]
    exact ⟨Gr.refl _, hk _ H.gr⟩
  | succ fu ih =>
    intro F w v non a k hv hx hf hk
    obtain ⟨Y, cy, rfl, hc, hy⟩ := hv
    refine enter317 ?_
    unfold S317
    have H := Apt.nil w
    refine boxH H fun b1 w1 H => ?_
    have H := H.drew
    refine ⟨fun w' => Gr w1.drew w', Gr.refl _, ?_⟩
    simp only [go_sem, Nat.reduceEqDiff]
    by_cases hlt : a < tree.length
    case neg =>
      simp only [show (tree.length : Int) ≤ a from by omega, decide_true, go_sem, Nat.reduceEqDiff]
      refine ⟨Gr.refl _, ?_⟩
      have := hk _ H.gr
      rwa [show endT gm.rules tree (fu + 1) non a = none from endT_no (okT_lt hlt)] at this
    simp only [show ¬ ((tree.length : Int) ≤ a) from by omega, decide_false, go_sem, Nat.reduceEqDiff]
    have hx1 := hx.gr H.gr
    have hy1 := hy.gr H.gr
    rw [zub_ hx.ptr hlt, ldS3 (fun w' hw' => Gr.cell hw' (hx1.cell a hlt)), rdG one24 (H.box 0 rfl) rfl]
    simp only [go_sem, Nat.reduceEqDiff]
    rw [zj_ (by omega) (by omega)]
    refine zaf_ ?_
    refine ⟨Gr.refl _, ?_⟩
    by_cases hin : inB (tree.getD a 0) 0 ((gm.rules.length : Int) - 1) = true
    case neg =>
      have hin := Bool.eq_false_iff.2 hin
      simp only [hin, Bool.not_false, go_sem, Nat.reduceEqDiff]
      have := hk _ H.gr
      rwa [show endT gm.rules tree (fu + 1) non a = none from endT_no (okT_in hin)] at this
    obtain ⟨q, hqe, hq⟩ : ∃ q : Nat, tree.getD a 0 = q ∧ q < gm.rules.length := by
      simp only [inB, Bool.and_eq_true, decide_eq_true_eq] at hin
      exact ⟨(tree.getD a 0).toNat, by omega, by omega⟩
    simp only [hin, Bool.not_true, go_sem, Nat.reduceEqDiff]
    obtain ⟨Z, cz, h1, h2, h3, h4⟩ := hy.row q hq
    rw [rdG one24 (H.box 0 rfl) rfl, zub_ hx.ptr hlt, ldS3 (fun w' hw' => Gr.cell hw' (hx1.cell a hlt)), hqe, zwe_ hy.ptr hq, fa33_0, zq35, ldS3 (fun w' hw' => Gr.cell hw' (H.gr.cell h1))]
    simp only [go_sem, Nat.reduceEqDiff]
    by_cases hne : (rul gm.rules q).1 = non
    case neg =>
      simp only [hne, decide_false, Bool.not_false, go_sem, Nat.reduceEqDiff]
      have := hk _ H.gr
      rwa [show endT gm.rules tree (fu + 1) non a = none from endT_no (okT_ne hqe hne)] at this
    simp only [hne, decide_true, Bool.not_true, go_sem, Nat.reduceEqDiff]
    have H := H.drew
    rw [zj_ (by omega) (by omega), zuf_ (H.box 0 rfl) rfl, zub_ hx.ptr hlt, ld3 ((hx.gr H.gr).cell a hlt), hqe, zwe_ hy.ptr hq, fa33_1, zhc_, ld27 (H.gr.cell h2)]
    simp only [go_sem, Nat.reduceEqDiff]
    have hE0 : endT gm.rules tree (fu + 1) non a = endR (endT gm.rules tree fu) (rul gm.rules q).2 (a + 1) := by
      have hok := okT_of hlt hin hqe hne
      simp only [endT, hok, if_true, rgtT, hqe, Int.toNat_natCast]
    rw [hE0] at hk
    clear hE0 h1 h2
    generalize (rul gm.rules q).2 = R at *
    refine zhb_ R.length 0 (fun i f w' => i ≤ R.length ∧ f 53 = .int .i64 i ∧ (∃ e : Nat, f 9 = .int .i64 e ∧ a + 1 ≤ e ∧ endR (endT gm.rules tree fu) (R.drop i) e = endR (endT gm.rules tree fu) R (a + 1)) ∧ Apt w w' [bx b1 [.int .i64 gm.nons, .int .i64 gm.toks, .slice Y gm.rules.length cy] 26]) ⟨Nat.zero_le _, rfl, ⟨a + 1, rfl, Nat.le_refl _, rfl⟩, H⟩ ?_
    rintro i f w2 N hag ⟨hi, h53, ⟨e, h9, hle, hE⟩, H⟩ hN
    have f51 : f 51 = .slice Z R.length cz := hag 51 (by decide)
    have f52 : f 52 = .int .i64 R.length := hag 52 (by decide)
    have f4 : f 4 = .pointer (some ⟨b1, 0, none⟩) := hag 4 (by decide)
    have f2 : f 2 = .slice X tree.length c := hag 2 (by decide)
    simp only [f51, f52, f4, f2, h53, h9, go_sem, Nat.reduceEqDiff]
    by_cases hlt2 : i < R.length
    · simp only [show (i : Int) < R.length from by omega, decide_true, go_sem, Nat.reduceEqDiff]
      have hR : R.drop i = R.getD i 0 :: R.drop (i + 1) := by
        rw [List.drop_eq_getElem_cons hlt2]
        simp [List.getD_eq_getElem?_getD, hlt2]
      rw [hR, endR] at hE
      have hRl := h4.is.le
      rw [zub_ h4.is.ptr hlt2, ld3 ((h4.is.gr H.gr).cell i hlt2)]
      by_cases hneg : R.getD i 0 < 0
      · simp only [hneg, decide_true, go_sem, Nat.reduceEqDiff]
        rw [if_pos hneg] at hE
        rw [zj_ (by omega) (by omega)]
        exact hN _ _ hlt2 ⟨hlt2, rfl, ⟨e, h9, hle, hE⟩, H⟩
      · simp only [hneg, decide_false, go_sem, Nat.reduceEqDiff]
        rw [if_neg hneg] at hE
        rw [zv_ zdb_ sz26 rfl (H.box 0 rfl)]
        refine ih (non := R.getD i 0) (a := e) ⟨Y, cy, rfl, hc, hy.gr H.gr⟩ (hx.gr H.gr) (by omega) fun w3 g3 => ?_
        have H := H.step g3
        simp only [go_sem, Nat.reduceEqDiff]
        cases hz : endT gm.rules tree fu (R.getD i 0) e with
        | none =>
          rw [hz] at hE
          simp only [optI, show ((-1 : Int) < 0) from by decide, decide_true, go_sem, Nat.reduceEqDiff]
          have := hk _ H.gr
          rwa [← hE] at this
        | some e' =>
          rw [hz] at hE
          have := endT_gt hz
          simp only [optI, show ¬ ((e' : Int) < 0) from by omega, decide_false, go_sem, Nat.reduceEqDiff]
          rw [zj_ (by omega) (by omega)]
          exact hN _ _ hlt2 ⟨hlt2, rfl, ⟨e', rfl, by omega, hE⟩, H⟩
    · simp only [show ¬ (i : Int) < R.length from by omega, decide_false, go_sem, Nat.reduceEqDiff]
      rw [List.drop_eq_nil_of_le (by omega), endR] at hE
      have := hk _ H.gr
      rwa [← hE] at this
end Go.Proofs.Ytegcjkhebecgbaa

namespace Go.Sh
open Go
theorem ztc_ {g : Gram} (hg : zy_ g = true) : 1 ≤ g.nons ∧ g.nons ≤ 6 := by
  simp only [zy_, inB, Bool.and_eq_true, decide_eq_true_eq] at hg
  exact hg.1.1.1
theorem zie_ {g : Gram} (hg : zy_ g = true) : 1 ≤ g.toks ∧ g.toks ≤ 4 := by
  simp only [zy_, inB, Bool.and_eq_true, decide_eq_true_eq] at hg
  exact hg.1.1.2
def isT (gm : Gram) (tree : List Int) : Bool := decide (0 < tree.length) && decide (endT gm.rules tree tree.length 0 0 = some tree.length)
def zdc_ (gm : Gram) (tree : List Int) : Bool := zy_ gm && decide (tree.length ≤ 60) && isT gm tree
theorem optI_eq {o : Option Nat} {n : Nat} : (optI o = n) = (o = some n) := by
  cases o with
  | none => exact propext ⟨fun h => by simp only [optI] at h; omega, fun h => by cases h⟩
  | some e => simp only [optI, Int.natCast_inj, Option.some.injEq]
end Go.Sh
namespace Go.Proofs.Ytegcjkhebecgbaa
open Go Go.Sh Go.RowKit

theorem zur_ {F : Nat → Prop} {w : World} {v : Value} {gm : Gram} {non : Int} {X : Option Addr} {n c : Nat} (hv : GramV F w v gm) {k : Value → World → Prop} (hk : ∀ w', Gr w w' → k (.bool (zy_ gm && inB non 0 (gm.nons - 1) && decide (n ≤ 60))) w') :
    CallK Try.prog 294 [v, .int .i64 non, .slice X n c] k w := by
  obtain ⟨Y, cy, rfl, hc, hy⟩ := hv
  refine enter294 ?_
  unfold S294
  have H := Apt.nil w
  refine boxH H fun b1 w1 H => ?_
  rw [zv_ zdb_ sz26 rfl (H.box 0 rfl)]
  refine zji_ (gm := gm) ⟨Y, cy, rfl, hc, hy.gr H.gr⟩ fun w2 g2 => ?_
  have H := H.step g2
  cases hg : zy_ gm
  · simp only [go_sem, Nat.reduceEqDiff]
    have := hk _ H.gr
    simpa only [hg, Bool.false_and] using this
  have hn := ztc_ hg
  simp only [go_sem, Nat.reduceEqDiff]
  rw [ldB3 (H.box 0 rfl) rfl]
  simp only [go_sem, Nat.reduceEqDiff]
  rw [zj_ (by omega) (by omega)]
  refine zaf_ ?_
  have := hk _ H.gr
  rw [hg, Bool.true_and] at this
  cases hi : inB non 0 (gm.nons - 1)
  · simp only [go_sem, Nat.reduceEqDiff]
    rwa [hi, Bool.false_and] at this
  · simp only [go_sem, Nat.reduceEqDiff]
    rw [hi, Bool.true_and] at this
    rwa [show (decide ((n : Int) ≤ 60)) = decide (n ≤ 60) from decide_eq_decide.2 (by omega)]
theorem l11Is_c {F : Nat → Prop} {w : World} {v : Value} {gm : Gram} {X : Option Addr} {tree : List Int} {n c : Nat} (hv : GramV F w v gm) (hg : zy_ gm = true) (hx : Ints w X tree) (hn : n = tree.length) (ht : tree.length ≤ 1000) {k : Value → World → Prop} (hk : ∀ w', Gr w w' → k (.bool (isT gm tree)) w') :
    CallK Try.prog 295 [v, .int .i64 0, .slice X n c] k w := by
  subst hn
  obtain ⟨Y, cy, rfl, hc, hy⟩ := hv
  refine enter295 ?_
  unfold S295
  have H := Apt.nil w
  refine boxH H fun b1 w1 H => ?_
  simp only [go_sem, Nat.reduceEqDiff]
  by_cases h0 : 0 < tree.length
  case neg =>
    simp only [show ¬ ((0 : Int) < tree.length) from by omega, decide_false, go_sem, Nat.reduceEqDiff]
    have := hk _ H.gr
    rwa [show isT gm tree = false from by rw [isT, decide_eq_false h0, Bool.false_and]] at this
  simp only [show (0 : Int) < tree.length from by omega, decide_true, go_sem, Nat.reduceEqDiff]
  rw [zv_ zdb_ sz26 rfl (H.box 0 rfl)]
  refine l11End_c hg ht tree.length (a := 0) ⟨Y, cy, rfl, hc, hy.gr H.gr⟩ (hx.gr H.gr) (by omega) fun w2 g2 => ?_
  have H := H.step g2
  simp only [go_sem, Nat.reduceEqDiff]
  have := hk _ H.gr
  rw [isT, decide_eq_true h0, Bool.true_and] at this
  simpa only [optI_eq] using this
theorem zek_ {F : Nat → Prop} {w : World} {v : Value} {gm : Gram} {X : Option Addr} {tree : List Int} {n c : Nat} (hv : GramV F w v gm) (hx : Ints w X tree) (hn : n = tree.length) {k : Value → World → Prop} (hk : ∀ w', Gr w w' → k (.bool (zdc_ gm tree)) w') :
    CallK Try.prog 223 [v, .slice X n c] k w := by
  subst hn
  obtain ⟨Y, cy, rfl, hc, hy⟩ := hv
  refine enter223 ?_
  unfold S223
  have H := Apt.nil w
  refine boxH H fun b1 w1 H => ?_
  rw [zv_ zdb_ sz26 rfl (H.box 0 rfl)]
  refine zur_ (gm := gm) ⟨Y, cy, rfl, hc, hy.gr H.gr⟩ fun w2 g2 => ?_
  have H := H.step g2
  have hk' := hk
  unfold zdc_ at hk'
  cases hg : zy_ gm
  · simp only [Bool.false_and, go_sem, Nat.reduceEqDiff]
    simpa only [hg, Bool.false_and] using hk' _ H.gr
  have hn := ztc_ hg
  rw [show inB 0 0 (gm.nons - 1) = true from by simp only [inB, Bool.and_eq_true, decide_eq_true_eq]; omega]
  by_cases hl : tree.length ≤ 60
  case neg =>
    simp only [hl, decide_false, Bool.and_false, go_sem, Nat.reduceEqDiff]
    simpa only [hl, decide_false, Bool.and_false, Bool.false_and] using hk' _ H.gr
  simp only [hl, decide_true, Bool.and_true, go_sem, Nat.reduceEqDiff]
  rw [zv_ zdb_ sz26 rfl (H.box 0 rfl)]
  refine l11Is_c (gm := gm) ⟨Y, cy, rfl, hc, hy.gr H.gr⟩ hg (hx.gr H.gr) rfl (by omega) fun w3 g3 => ?_
  have H := H.step g3
  simpa only [hg, hl, decide_true, Bool.true_and] using hk' _ H.gr
end Go.Proofs.Ytegcjkhebecgbaa
