/- The frame calculus, second part: its soundness over the model's own rules. -/
import Derived.Test.YtiohaeckagjebaaSh0
set_option linter.unusedVariables false
set_option linter.unusedSimpArgs false
namespace Go.Sh
open Go Go.Proofs.YtiohaeckagjebaaW.PrintLast

theorem do_upon {P : Program} {f : F} {o : Oper} {k : Value → World → Prop} {w : World} {a : Act} {next : Act → World → Prop} {Q : Exit → Act → World → Prop}
    (h : Do P (execOp f.ev o) k w) (hn : ∀ v w', k v w' → next (a.put o.dst v) w') : o.upon P a next Q ((execOp f.ev o).run P w) := by
  unfold Do at h
  generalize (execOp f.ev o).run P w = r at *
  cases r with
  | halt x w' => exact h.elim
  | ok x w' =>
    cases x <;> first | exact hn _ _ h | exact h.elim | skip
    exact Calls.mono h fun e w'' he => by cases e <;> first | exact hn _ _ he | exact he.elim

theorem opK_wp {P : Program} {S : WS} {f : F} {o : Oper} {k : Value → World → Prop} {w : World} {a : Act} {next : Act → World → Prop} {Q : Exit → Act → World → Prop}
    (hS : quietOp o.op = true → S.S w) (hf : a.eval = f.ev) (h : opK P S f o k w) (hn : ∀ v w', k v w' → next (a.put o.dst v) w') : o.wp P a w next Q := by
  unfold Oper.wp
  rw [hf]
  by_cases hq : quietOp o.op = true
  · obtain ⟨v, hv, hk⟩ := opK_yields hq h
    rw [hv w (hS hq)]
    exact hn _ _ hk
  · obtain ⟨dst, op, ty, pos, after, guard⟩ := o
    cases op
    case call c =>
      obtain ⟨callee, args, ts⟩ := c
      cases callee
      case builtin b =>
        have hb : quietB b = false := by
          cases e : quietB b
          · rfl
          · exact absurd e hq
        simp only [opK, hb, cond_false, sBuiltin, toArray_map] at h
        exact do_upon h hn
      case value x =>
        cases x
        case func g =>
          obtain ⟨hb, hc⟩ := h
          rw [callee_enter hb]
          exact Calls.mono hc fun e w'' he => by cases e <;> first | exact hn _ _ he | exact he.elim
        all_goals
          simp only [opK, sCallV, toArray_map] at h
          refine do_upon (o := { dst, op := .call { callee := .value _, args, argTypes := ts }, type := ty, pos, after, guard }) (f := f) ?_ hn
          simp only [execOp, resolve]
          exact h
      case invoke r m => exact do_upon h hn
    case buildSlice t m ps =>
      simp only [opK, sBuildSlice, toArray_map] at h
      exact do_upon h hn
    all_goals first | exact absurd rfl hq | exact do_upon h hn

/-! ### Guards -/
def GuardK (g : Value) (want : Bool) (run : (Value → World → Prop) → World → Prop) (k : Value → World → Prop) (w : World) : Prop :=
  match g with
  | .bool b => bif b == want then run k w else k undef w
  | _ => k undef w
def gval (ops : List Oper) (f : F) (j : Nat) : Value :=
  match ops[j]? with
  | some o => match o.dst with
    | some d => f d
    | none => undef
  | none => undef
def stepK (P : Program) (S : WS) (ops : List Oper) (f : F) (o : Oper) (k : Value → World → Prop) (w : World) : Prop :=
  match o.guard with
  | none => opK P S f o k w
  | some (j, want) => GuardK (gval ops f j) want (fun k w => opK P S f o k w) k w

theorem wanted_none {ops : Array Oper} {o : Oper} {t : Array Value} (h : o.guard = none) : Region.wanted o (yielded ops t) = true := by simp [Region.wanted, h]
theorem yielded_fits {ops : Array Oper} {n : Nat} {f : F} {a : Act} (hf : Fits n f a) (j : Nat) : yielded ops a.tmps j = match gval ops.toList f j with | .bool b => some b | _ => none := by
  unfold yielded gval
  rw [Array.getElem?_toList]
  cases h : ops[j]? with
  | none => rfl
  | some o =>
    simp only [Option.bind_some]
    cases hd : o.dst with
    | none => rfl
    | some d =>
      simp only [Option.bind_some]
      rw [← hf.eq d, Array.getD_eq_getD_getElem?]
      cases a.tmps[d]? with
      | none => rfl
      | some v => cases v <;> rfl

/-- A guarded operation is carried out, or it is left out. -/
theorem stepK_cases {P : Program} {S : WS} {ops : Array Oper} {n : Nat} {f : F} {a : Act} {o : Oper} {k : Value → World → Prop} {w : World} (hf : Fits n f a) (h : stepK P S ops.toList f o k w) :
    (Region.wanted o (yielded ops a.tmps) = true ∧ opK P S f o k w) ∨ (Region.wanted o (yielded ops a.tmps) = false ∧ k undef w) := by
  unfold stepK at h
  split at h
  · rename_i hg
    exact .inl ⟨wanted_none hg, h⟩
  · rename_i j want hg
    unfold GuardK at h
    have hw : Region.wanted o (yielded ops a.tmps) = (yielded ops a.tmps j == some want) := by simp [Region.wanted, hg]
    rw [hw, yielded_fits hf]
    split at h
    · rename_i b hb
      cases hbw : b == want
      · rw [hbw] at h
        exact .inr ⟨by simpa using hbw, h⟩
      · rw [hbw] at h
        exact .inl ⟨by simpa using hbw, h⟩
    · rename_i hb
      exact .inr ⟨rfl, h⟩

def Agree (W : List Nat) (f0 f : F) : Prop := ∀ s, s ∉ W → f s = f0 s
theorem Agree.refl (W : List Nat) (f : F) : Agree W f f := fun _ _ => rfl
theorem Agree.trans {W : List Nat} {f g h : F} (a : Agree W f g) (b : Agree W g h) : Agree W f h := fun s hs => (b s hs).trans (a s hs)
theorem Agree.put {W : List Nat} {f0 f : F} (h : Agree W f0 f) (o : Option Nat) (ho : ∀ d, o = some d → d ∈ W) (v : Value) : Agree W f0 (f.put o v) := by
  cases o with
  | none => exact h
  | some d =>
    intro s hs
    have : s ≠ d := fun e => hs (e ▸ ho d rfl)
    exact (F.upd_ne f v this).trans (h s hs)
theorem Agree.sub {W W' : List Nat} {f g : F} (h : Agree W f g) (hs : ∀ s, s ∈ W → s ∈ W') : Agree W' f g := fun s hn => h s (fun hm => hn (hs s hm))

def dsts (ops : List Oper) : List Nat := ops.filterMap (·.dst)

/-! ### A region whose order is the text's -/
def opsK (P : Program) (ops : List Oper) : List Oper → F → (F → World → Prop) → World → Prop
  | [], f, k, w => k f w
  | o :: r, f, k, w => stepK P (WS.at w) ops f o (fun v w' => opsK P ops r (f.put o.dst v) k w') w

theorem opsK_sound {P : Program} {ops : Array Oper} {n : Nat} {W : List Nat} {k : F → World → Prop} {Q : Exit → Act → World → Prop} {f0 : F}
    (hQ : ∀ f a w, Fits n f a → Agree W f0 f → k f w → Q .normal a w) (hW : ∀ d ∈ W, d < n) :
    ∀ (suf pre : List Oper) (f : F) (a : Act) (w : World), ops.toList = pre ++ suf → (∀ d ∈ dsts suf, d ∈ W) → Fits n f a → Agree W f0 f → opsK P ops.toList suf f k w → wpOps P ops Q (List.range' pre.length suf.length) a w := by
  intro suf
  induction suf with
  | nil => intro pre f a w _ _ hf ha h; exact hQ f a w hf ha h
  | cons o r ih =>
    intro pre f a w he hd hf ha h
    have ho : ops[pre.length]? = some o := by
      rw [← Array.getElem?_toList, he]
      simp
    have hod : ∀ d, o.dst = some d → d ∈ W := fun d e => hd d (by simp [dsts, List.filterMap_cons, e])
    have hrd : ∀ d ∈ dsts r, d ∈ W := fun d hm => hd d (by
      unfold dsts at hm ⊢
      rw [List.filterMap_cons]
      split
      · exact hm
      · exact List.mem_cons_of_mem _ hm)
    have next : ∀ v w', opsK P ops.toList r (f.put o.dst v) k w' → wpOps P ops Q (List.range' (pre.length + 1) r.length) (a.put o.dst v) w' := fun v w' h' => by
      have := ih (pre ++ [o]) (f.put o.dst v) (a.put o.dst v) w' (by rw [he]; simp) hrd (hf.put _ (fun d e => hW d (hod d e)) v) (ha.put _ hod v) h'
      simpa using this
    rw [List.length_cons, List.range'_succ, wpOps_cons]
    unfold wpOp
    simp only [ho]
    rcases stepK_cases hf h with ⟨hw, h1⟩ | ⟨hw, h1⟩
    · rw [if_pos hw]
      exact .inl (opK_wp (S := WS.at w) (fun _ => rfl) hf.ev h1 next)
    · rw [if_neg (by simp [hw])]
      exact next _ _ h1

/-! ### A region that draws its order: a plan -/
inductive Kd where
  | any | held | one | last
  deriving DecidableEq
/-- Steps of a plan; at a fork either of two may come first. -/
inductive Steps where
  | nil
  | step (i : Nat) (kd : Kd) (r : Steps)
  | fork (i : Nat) (a : Steps) (j : Nat) (b : Steps)
structure Plan where
  gen : Bool
  ds : List Nat
  steps : Steps

def quietAt (ops : Array Oper) (i : Nat) : Bool := ((ops[i]?).map fun o => quietOp o.op).getD false
def stepsOK (ops : Array Oper) (ds : List Nat) : Steps → Nat → Array Bool → Bool → Bool
  | .nil, n, l, _ => (n == 0) && (Region.ready .any ops l == [])
  | .step _ _ _, 0, _, _ => false
  | .step i .any r, n + 1, l, s => quietAt ops i && anyB .any ops l (l.setIfInBounds i true) i && stepsOK ops ds r n (l.setIfInBounds i true) s
  | .step i .held r, n + 1, l, s => s && quietAt ops i && takeB .any ops ds l (l.setIfInBounds i true) i && stepsOK ops ds r n (l.setIfInBounds i true) s
  | .step i .one r, n + 1, l, s => s && !ds.contains i && (Region.ready .any ops l == [i]) && stepsOK ops ds r n (l.setIfInBounds i true) s
  | .step i .last r, n + 1, l, s => !quietAt ops i && ds.contains i && (Region.ready .any ops l == [i]) && stepsOK ops ds r n (l.setIfInBounds i true) false
  | .fork _ _ _ _, 0, _, _ => false
  | .fork i a j b, n + 1, l, s => s && !ds.contains i && !ds.contains j && (Region.ready .any ops l == [i, j]) && stepsOK ops ds a n (l.setIfInBounds i true) s && stepsOK ops ds b n (l.setIfInBounds j true) s
def planOK (ops : Array Oper) (p : Plan) : Bool := stepsOK ops p.ds p.steps ops.size (Array.replicate ops.size false) true

def stepsK (P : Program) (ops : List Oper) (S : WS) : Steps → F → (F → World → Prop) → World → Prop
  | .nil, f, k, w => k f w
  | .step i kd r, f, k, w =>
    match ops[i]? with
    | none => False
    | some o =>
      match kd with
      | .any => stepK P WS.any ops f o (fun v w' => stepsK P ops S r (f.put o.dst v) k w') w
      | .held => stepK P S ops f o (fun v w' => stepsK P ops S r (f.put o.dst v) k w') w
      | .one => stepK P S ops f o (fun v w' => S.S w' ∧ stepsK P ops S r (f.put o.dst v) k w') w
      | .last => stepK P S ops f o (fun v w' => stepsK P ops S r (f.put o.dst v) k w') w
  | .fork i a j b, f, k, w =>
    match ops[i]?, ops[j]? with
    | some o, some u => stepK P S ops f o (fun v w' => S.S w' ∧ stepsK P ops S a (f.put o.dst v) k w') w ∧ stepK P S ops f u (fun v w' => S.S w' ∧ stepsK P ops S b (f.put u.dst v) k w') w
    | _, _ => False
def drawK (P : Program) (ops : List Oper) (p : Plan) (f : F) (k : F → World → Prop) (w : World) : Prop :=
  bif p.gen then ∃ S : World → Prop, ∃ h : S w, stepsK P ops ⟨S, w, h⟩ p.steps f k w
  else stepsK P ops (WS.at w) p.steps f k w

theorem stepsK_sound {P : Program} {ops : Array Oper} {n : Nat} {W : List Nat} {k : F → World → Prop} {Q : Exit → Act → World → Prop} {f0 : F} {S : WS} {ds : List Nat}
    (hQ : ∀ f a w, Fits n f a → Agree W f0 f → k f w → Q .normal a w) (hP : ∀ c a w, ¬ Q (.panic c) a w) (hW : ∀ d ∈ W, d < n) (hD : ∀ d ∈ dsts ops.toList, d ∈ W) :
    ∀ (steps : Steps) (m : Nat) (l : Array Bool) (s : Bool) (f : F) (a : Act) (w : World), stepsOK ops ds steps m l s = true → (s = true → S.S w) → Fits n f a → Agree W f0 f →
      stepsK P ops.toList S steps f k w → wpAnyLast P .any ops Q S.S ds m l a w := by
  have hdst : ∀ {i : Nat} {o : Oper}, ops[i]? = some o → ∀ d, o.dst = some d → d ∈ W := fun {i o} ho d e => hD d (List.mem_filterMap.2 ⟨o, by
    rw [← Array.getElem?_toList] at ho
    exact List.mem_of_getElem? ho, e⟩)
  have hone : ∀ {i m : Nat} {o : Oper} {r : Steps} {l : Array Bool} {s : Bool} {f : F} {a : Act} {w : World}, ops[i]? = some o → s = true → (s = true → S.S w) → Fits n f a → Agree W f0 f → stepsOK ops ds r m (l.setIfInBounds i true) s = true →
      stepK P S ops.toList f o (fun v w' => S.S w' ∧ stepsK P ops.toList S r (f.put o.dst v) k w') w →
      (∀ (l : Array Bool) (s : Bool) (f : F) (a : Act) (w : World), stepsOK ops ds r m l s = true → (s = true → S.S w) → Fits n f a → Agree W f0 f → stepsK P ops.toList S r f k w → wpAnyLast P .any ops Q S.S ds m l a w) →
      wpOp P ops Q i (fun a' w' => (i ∉ ds → S.S w → S.S w') ∧ wpAnyLast P .any ops Q S.S ds m (l.setIfInBounds i true) a' w') a w := by
    intro i m o r l s f a w ho hs1 hs hf ha hok h ih
    unfold wpOp
    simp only [ho]
    have go : ∀ v w', S.S w' → stepsK P ops.toList S r (f.put o.dst v) k w' → wpAnyLast P .any ops Q S.S ds m (l.setIfInBounds i true) (a.put o.dst v) w' :=
      fun v w' h2 h3 => ih _ s _ _ _ hok (fun _ => h2) (hf.put _ (fun d e => hW d (hdst ho d e)) v) (ha.put _ (hdst ho) v) h3
    rcases stepK_cases hf h with ⟨hw, h'⟩ | ⟨hw, h'⟩
    · rw [if_pos hw]
      exact .inl (opK_wp (fun _ => hs hs1) hf.ev h' fun v w' hk => ⟨fun _ _ => hk.1, go v w' hk.1 hk.2⟩)
    · rw [if_neg (by simp [hw])]
      exact ⟨fun _ _ => h'.1, go undef w h'.1 h'.2⟩
  intro steps
  induction steps with
  | nil =>
    intro m l s f a w hok _ hf ha h
    simp only [stepsOK, Bool.and_eq_true, beq_iff_eq] at hok
    obtain ⟨rfl, hok⟩ := hok
    exact ⟨hok, hQ f a w hf ha h⟩
  | fork i x j y ihx ihy =>
    intro m l s f a w hok hs hf ha h
    cases m with
    | zero => simp [stepsOK] at hok
    | succ m =>
    simp only [stepsOK, Bool.and_eq_true] at hok
    obtain ⟨⟨⟨⟨⟨h0, h1⟩, h2⟩, h3⟩, h4⟩, h5⟩ := hok
    have h3' : Region.ready .any ops l = [i, j] := by simpa using h3
    unfold stepsK at h
    split at h
    · rename_i o u ho hu
      rw [Array.getElem?_toList] at ho hu
      refine wpAnyLast_all h3' (by simp) fun e he => ?_
      have : e = i ∨ e = j := by simpa using he
      rcases this with rfl | rfl
      · exact hone ho h0 hs hf ha h4 h.1 fun l s f a w => ihx m l s f a w
      · exact hone hu h0 hs hf ha h5 h.2 fun l s f a w => ihy m l s f a w
    · exact h.elim
  | step i kd r ih =>
    intro m l s f a w hok hs hf ha h
    cases m with
    | zero => simp [stepsOK] at hok
    | succ m =>
    unfold stepsK at h
    split at h
    · exact h.elim
    · rename_i o ho
      rw [Array.getElem?_toList] at ho
      have hod : ∀ d, o.dst = some d → d ∈ W := hdst ho
      have hq : quietAt ops i = true → quietOp o.op = true := fun h => by simpa [quietAt, ho] using h
      have go : ∀ v w' s', stepsOK ops ds r m (l.setIfInBounds i true) s' = true → (s' = true → S.S w') → stepsK P ops.toList S r (f.put o.dst v) k w' → wpAnyLast P .any ops Q S.S ds m (l.setIfInBounds i true) (a.put o.dst v) w' :=
        fun v w' s' h1 h2 h3 => ih _ _ s' _ _ _ h1 h2 (hf.put _ (fun d e => hW d (hod d e)) v) (ha.put _ hod v) h3
      cases kd with
      | any =>
        simp only [stepsOK, Bool.and_eq_true] at hok
        obtain ⟨⟨h1, h2⟩, h3⟩ := hok
        simp only at h
        have hy : ∃ v, Yields P ops o v a ∧ stepsK P ops.toList S r (f.put o.dst v) k w := by
          rcases stepK_cases hf h with ⟨hw, h'⟩ | ⟨hw, h'⟩
          · obtain ⟨v, hv, hk⟩ := opK_yields (hq h1) h'
            exact ⟨v, .inl ⟨hw, fun w' => by rw [hf.ev]; exact hv w' trivial⟩, hk⟩
          · exact ⟨undef, .inr ⟨hw, rfl⟩, h'⟩
        obtain ⟨v, hy, hk⟩ := hy
        exact pure_ _ ho rfl h2 (fun c a w hq => absurd hq (hP c _ w)) hy rfl (go v w s h3 hs hk)
      | held =>
        simp only [stepsOK, Bool.and_eq_true] at hok
        obtain ⟨⟨⟨h0, h1⟩, h2⟩, h3⟩ := hok
        simp only at h
        have hy : ∃ v, YieldsIf P ops S.S o v a ∧ stepsK P ops.toList S r (f.put o.dst v) k w := by
          rcases stepK_cases hf h with ⟨hw, h'⟩ | ⟨hw, h'⟩
          · obtain ⟨v, hv, hk⟩ := opK_yields (hq h1) h'
            exact ⟨v, .inl ⟨hw, fun w' hw' => by rw [hf.ev]; exact hv w' hw'⟩, hk⟩
          · exact ⟨undef, .inr ⟨hw, rfl⟩, h'⟩
        obtain ⟨v, hy, hk⟩ := hy
        exact take_ _ ho rfl h2 (fun c a w hq => absurd hq (hP c _ w)) hy (hs h0) rfl (go v w s h3 hs hk)
      | one =>
        simp only [stepsOK, Bool.and_eq_true] at hok
        obtain ⟨⟨⟨h0, h1⟩, h2⟩, h3⟩ := hok
        simp only at h
        have h2' : Region.ready .any ops l = [i] := by simpa using h2
        refine wpAnyLast_all h2' (by simp) fun j hj => ?_
        have hji : j = i := by simpa using hj
        subst hji
        unfold wpOp
        simp only [ho]
        rcases stepK_cases hf h with ⟨hw, h'⟩ | ⟨hw, h'⟩
        · rw [if_pos hw]
          exact .inl (opK_wp (fun _ => hs h0) hf.ev h' fun v w' hk => ⟨fun _ _ => hk.1, go v w' s h3 (fun _ => hk.1) hk.2⟩)
        · rw [if_neg (by simp [hw])]
          exact ⟨fun _ _ => h'.1, go undef w s h3 (fun _ => h'.1) h'.2⟩
      | last =>
        simp only [stepsOK, Bool.and_eq_true] at hok
        obtain ⟨⟨⟨h0, h1⟩, h2⟩, h3⟩ := hok
        simp only at h
        have hnq : quietOp o.op = true → S.S w := fun e => by simp [quietAt, ho, e] at h0
        have h2' : Region.ready .any ops l = [i] := by simpa using h2
        have hid : i ∈ ds := by simpa using h1
        refine wpAnyLast_all h2' (by simp) fun j hj => ?_
        have hji : j = i := by simpa using hj
        subst hji
        unfold wpOp
        simp only [ho]
        rcases stepK_cases hf h with ⟨hw, h'⟩ | ⟨hw, h'⟩
        · rw [if_pos hw]
          refine .inl (opK_wp hnq hf.ev h' fun v w' hk => ⟨fun hn => absurd hid hn, go v w' false h3 (fun h => by cases h) hk⟩)
        · rw [if_neg (by simp [hw])]
          exact ⟨fun hn => absurd hid hn, go undef w false h3 (fun h => by cases h) h'⟩

theorem plan_sound {P : Program} {ops : Array Oper} {n : Nat} {W : List Nat} {k : F → World → Prop} {Q : Exit → Act → World → Prop} {id : Nat} {p : Plan} {f : F} {a : Act} {w : World} (hm : P.follows .mixedOrders = true)
    (hQ : ∀ f' a w, Fits n f' a → Agree W f f' → k f' w → Q .normal a w) (hP : ∀ c a w, ¬ Q (.panic c) a w) (hW : ∀ d ∈ W, d < n) (hD : ∀ d ∈ dsts ops.toList, d ∈ W)
    (hok : planOK ops p = true) (hf : Fits n f a) (h : drawK P ops.toList p f k w.drew) : (Code.region id ops true).wp P Q a w := by
  unfold planOK at hok
  unfold drawK at h
  cases hg : p.gen <;> rw [hg] at h
  · refine wp_region_last (S := (WS.at w.drew).S) (ds := p.ds) hm ?_
    exact stepsK_sound (S := WS.at w.drew) hQ hP hW hD p.steps _ _ true f a _ hok (fun _ => rfl) hf (Agree.refl _ _) h
  · obtain ⟨S, hS, h⟩ := h
    refine wp_region_last (S := S) (ds := p.ds) hm ?_
    exact stepsK_sound (S := ⟨S, w.drew, hS⟩) hQ hP hW hD p.steps _ _ true f a _ hok (fun _ => hS) hf (Agree.refl _ _) h

/-! ### Code -/
def seqQ (next : F → World → Prop) (Q : Exit → F → World → Prop) : Exit → F → World → Prop
  | .normal, f, w => next f w
  | e, f, w => Q e f w
def blockQ (id : Nat) (Q : Exit → F → World → Prop) : Exit → F → World → Prop
  | .exit i, f, w => bif Nat.beq i id then Q .normal f w else Q (.exit i) f w
  | e, f, w => Q e f w
def CondK (c : Value) (x y : Prop) : Prop :=
  match c with
  | .bool b => bif b then x else y
  | _ => False
/-- A loop: an invariant that the prover gives; W: the slots that its body may write. -/
def LoopF (W : List Nat) (body : (Exit → F → World → Prop) → F → World → Prop) (Q : Exit → F → World → Prop) (f0 : F) (w0 : World) : Prop :=
  ∃ (I : F → World → Prop) (μ : F → World → Nat), I f0 w0 ∧ ∀ f w, Agree W f0 f → I f w → body (seqQ (fun f' w' => I f' w' ∧ μ f' w' < μ f w) Q) f w

def Plans := Nat → Plan

def wr : Code → List Nat
  | .region _ ops _ => dsts ops.toList
  | .seq a b => wr a ++ wr b
  | .cond _ a b => wr a ++ wr b
  | .block _ b => wr b
  | .loop b => wr b
  | _ => []

def wpF (P : Program) (pl : Plans) : Code → (Exit → F → World → Prop) → F → World → Prop
  | .skip, Q, f, w => Q .normal f w
  | .region _ ops false, Q, f, w => opsK P ops.toList ops.toList f (fun f w => Q .normal f w) w
  | .region id ops true, Q, f, w => drawK P ops.toList (pl id) f (fun f w => Q .normal f w) w.drew
  | .seq a b, Q, f, w => wpF P pl a (seqQ (wpF P pl b Q) Q) f w
  | .cond c a b, Q, f, w => CondK (f.ev c) (wpF P pl a Q f w) (wpF P pl b Q f w)
  | .block id b, Q, f, w => wpF P pl b (blockQ id Q) f w
  | .loop b, Q, f, w => LoopF (wr b) (wpF P pl b) Q f w
  | .exit id, Q, f, w => Q (.exit id) f w
  | .ret, Q, f, w => Q .ret f w
  | _, _, _, _ => False

def plansOK (pl : Plans) : Code → Bool
  | .region id ops true => planOK ops (pl id)
  | .seq a b => plansOK pl a && plansOK pl b
  | .cond _ a b => plansOK pl a && plansOK pl b
  | .block _ b => plansOK pl b
  | .loop b => plansOK pl b
  | _ => true

def NoPanic (Q : Exit → F → World → Prop) : Prop := ∀ c f w, ¬ Q (.panic c) f w

/-- What a plain frame calculus says of code, the model's own rules say of it. -/
theorem wpF_sound {P : Program} {pl : Plans} (hm : P.follows .mixedOrders = true) {n : Nat} : ∀ (c : Code), (∀ d ∈ wr c, d < n) → plansOK pl c = true → ∀ (Q : Exit → F → World → Prop), NoPanic Q → ∀ (f : F) (w : World) (a : Act),
    wpF P pl c Q f w → Fits n f a → c.wp P (fun e a' w' => ∃ f', Fits n f' a' ∧ Q e f' w' ∧ Agree (wr c) f f') a w := by
  intro c
  induction c with
  | skip => intro _ _ Q _ f w a h hf; exact wp_skip ⟨f, hf, h, Agree.refl _ _⟩
  | exit id => intro _ _ Q _ f w a h hf; exact wp_exit ⟨f, hf, h, Agree.refl _ _⟩
  | ret => intro _ _ Q _ f w a h hf; exact wp_ret ⟨f, hf, h, Agree.refl _ _⟩
  | region id ops draw =>
    intro hW hok Q hQ f w a h hf
    cases draw with
    | false =>
      refine wp_region ?_
      have := opsK_sound (W := wr (.region id ops false)) (f0 := f) (Q := fun e a' w' => ∃ f', Fits n f' a' ∧ Q e f' w' ∧ Agree (wr (.region id ops false)) f f') (k := fun f w => Q .normal f w)
        (fun f' a w h1 h2 h3 => ⟨f', h1, h3, h2⟩) hW ops.toList [] f a w rfl (fun d hd => hd) hf (Agree.refl _ _) h
      simpa [List.range_eq_range'] using this
    | true =>
      exact plan_sound (W := wr (.region id ops true)) (Q := fun e a' w' => ∃ f', Fits n f' a' ∧ Q e f' w' ∧ Agree (wr (.region id ops true)) f f') hm
        (fun f' a w h1 h2 h3 => ⟨f', h1, h3, h2⟩) (fun c a w ⟨f', _, h, _⟩ => hQ _ _ _ h) hW (fun d hd => hd) hok hf h
  | seq x y ihx ihy =>
    intro hW hok Q hQ f w a h hf
    simp only [plansOK, Bool.and_eq_true] at hok
    have hx := ihx (fun d hd => hW d (List.mem_append_left _ hd)) hok.1 (seqQ (wpF P pl y Q) Q) (fun c f w h => hQ c f w h) f w a h hf
    refine wp_seq (wp_mono hx fun e a' w' ⟨f', hf', hq, hag⟩ => ?_)
    cases e with
    | normal =>
      exact wp_mono (ihy (fun d hd => hW d (List.mem_append_right _ hd)) hok.2 Q hQ f' w' a' hq hf') fun e a'' w'' ⟨f'', h1, h2, h3⟩ =>
        ⟨f'', h1, h2, (hag.sub (fun s hs => List.mem_append_left _ hs)).trans (h3.sub fun s hs => List.mem_append_right _ hs)⟩
    | _ => exact ⟨f', hf', hq, hag.sub fun s hs => List.mem_append_left _ hs⟩
  | cond c x y ihx ihy =>
    intro hW hok Q hQ f w a h hf
    simp only [plansOK, Bool.and_eq_true] at hok
    simp only [wpF, CondK] at h
    split at h
    · rename_i b hb
      have hc : a.eval c = .bool b := by rw [hf.ev]; exact hb
      refine wp_cond hc ?_
      cases b
      · exact wp_mono (ihy (fun d hd => hW d (List.mem_append_right _ hd)) hok.2 Q hQ f w a h hf) fun e a' w' ⟨f', h1, h2, h3⟩ => ⟨f', h1, h2, h3.sub fun s hs => List.mem_append_right _ hs⟩
      · exact wp_mono (ihx (fun d hd => hW d (List.mem_append_left _ hd)) hok.1 Q hQ f w a h hf) fun e a' w' ⟨f', h1, h2, h3⟩ => ⟨f', h1, h2, h3.sub fun s hs => List.mem_append_left _ hs⟩
    · exact h.elim
  | block id b ih =>
    intro hW hok Q hQ f w a h hf
    refine wp_block (wp_mono (ih hW hok (blockQ id Q) (fun c f w h => hQ c f w h) f w a h hf) fun e a' w' ⟨f', h1, h2, h3⟩ => ?_)
    cases e with
    | exit i =>
      show if i = id then _ else _
      simp only [blockQ] at h2
      by_cases hi : i = id
      · subst hi
        rw [if_pos rfl]
        rw [show Nat.beq i i = true from Nat.beq_refl i] at h2
        exact ⟨f', h1, h2, h3⟩
      · rw [if_neg hi]
        have hb : Nat.beq i id = false := by
          cases h' : Nat.beq i id
          · rfl
          · exact absurd (Nat.eq_of_beq_eq_true h') hi
        rw [hb] at h2
        exact ⟨f', h1, h2, h3⟩
    | _ => exact ⟨f', h1, h2, h3⟩
  | loop b ih =>
    intro hW hok Q hQ f w a h hf
    obtain ⟨I, μ, h0, hr⟩ := h
    have hex : ∃ μ' : Act → World → Nat, ∀ f' a' w', Fits n f' a' → μ' a' w' = μ f' w' := ⟨fun a' w' => μ (fun t => a'.tmps.getD t undef) w', fun f' a' w' hf' => by
      have : (fun t => a'.tmps.getD t undef) = f' := funext hf'.eq
      show μ (fun t => a'.tmps.getD t undef) w' = μ f' w'
      rw [this]⟩
    obtain ⟨μ', hμ⟩ := hex
    refine wp_loop (fun a' w' => ∃ f', Fits n f' a' ∧ Agree (wr b) f f' ∧ I f' w') μ' ⟨f, hf, Agree.refl _ _, h0⟩ ?_
    rintro a1 w1 ⟨f1, hf1, hag1, hI1⟩
    refine wp_mono (ih hW hok (seqQ (fun f' w' => I f' w' ∧ μ f' w' < μ f1 w1) Q) (fun c f w h => hQ c f w h) f1 w1 a1 (hr f1 w1 hag1 hI1) hf1) fun e a' w' ⟨f', h1, h2, h3⟩ => ?_
    cases e with
    | normal => exact ⟨⟨f', h1, hag1.trans h3, h2.1⟩, by rw [hμ f' a' w' h1, hμ f1 a1 w1 hf1]; exact h2.2⟩
    | _ => exact ⟨f', h1, h2, hag1.trans h3⟩
  | _ => intro _ _ Q _ f w a h hf; exact h.elim

/-! ### A function -/
def sLoadVar (t : TypeId) (a : Value) : Sem Next := (do loadVar t (← asAddr a)) >>= fun v => pure (.value v)
theorem value_bind {P : Program} {s : Sem Value} {w w' : World} {v : Value} (h : (s >>= fun v => (pure (.value v) : Sem Next)).run P w = .ok (.value v) w') : s.run P w = .ok v w' := by
  rw [Sem.run_bind] at h
  cases e : s.run P w with
  | ok v' w1 =>
    rw [e] at h
    simp at h
    rw [h.1, h.2]
  | halt x w1 =>
    rw [e] at h
    simp at h
def resK (P : Program) : List ResultVar → F → List Value → (List Value → World → Prop) → World → Prop
  | [], _, acc, k, w => k acc w
  | .tmp t :: r, f, acc, k, w => resK P r f (acc ++ [f t]) k w
  | .cell a t :: r, f, acc, k, w => Rd P (WS.at w) (sLoadVar t (f a)) fun v => resK P r f (acc ++ [v]) k w
def oneOf (k : Value → World → Prop) : List Value → World → Prop
  | [v], w => k v w
  | vs, w => k (.tuple vs.toArray) w
def bodyQ (P : Program) (rs : List ResultVar) (k : Value → World → Prop) : Exit → F → World → Prop
  | .normal, f, w => resK P rs f [] (oneOf k) w
  | .ret, f, w => resK P rs f [] (oneOf k) w
  | _, _, _ => False
def initF (args : List Value) : F := fun t => args.getD t undef

theorem resK_run {P : Program} {f : F} {w : World} {k : List Value → World → Prop} : ∀ (rs : List ResultVar) (acc : List Value), resK P rs f acc k w →
    ∃ vs, (rs.mapM (m := Sem) fun r => match r with | .tmp t => pure (f t) | .cell c t => do loadVar t (← asAddr (f c))).run P w = .ok vs w ∧ k (acc ++ vs) w := by
  intro rs
  induction rs with
  | nil => intro acc h; exact ⟨[], rfl, by rw [List.append_nil]; exact h⟩
  | cons r rs ih =>
    intro acc h
    cases r with
    | tmp t =>
      obtain ⟨vs, hv, hk⟩ := ih _ h
      refine ⟨f t :: vs, ?_, by simpa using hk⟩
      rw [List.mapM_cons]
      simp [hv]
    | cell c t =>
      obtain ⟨v, hv, h'⟩ := h
      obtain ⟨vs, hvs, hk⟩ := ih _ h'
      refine ⟨v :: vs, ?_, by simpa using hk⟩
      have hl := value_bind (hv w rfl)
      rw [List.mapM_cons, Sem.run_bind]
      simp only [hl]
      simp [hvs]

theorem call_of_wpF {P : Program} {pl : Plans} {g : FuncId} {fn : Func} {c : Code} {args : List Value} {w : World} {k : Value → World → Prop} (hm : P.follows .mixedOrders = true)
    (hg : P.funcs[g]? = some fn) (hb : fn.body = some c) (hn : (fn.name == "runtime.NumGoroutine") = false) (hl : args.length ≤ fn.ntmps) (hw : (wr c).all (fun d => Nat.blt d fn.ntmps) = true) (hp : plansOK pl c = true)
    (h : wpF P pl c (bodyQ P fn.results.toList k) (initF args) w) : CallK P g args k w := by
  refine ⟨⟨fn, hg, by simp [hb], hn⟩, calls_of_wp hg hb ?_⟩
  have hfit : Fits fn.ntmps (initF args) { tmps := args.toArray ++ Array.replicate (fn.ntmps - args.toArray.size) undef, defers := [] } := by
    refine ⟨by simp; omega, rfl, fun t => ?_⟩
    simp only [initF, Array.getD_eq_getD_getElem?, List.getD_eq_getElem?_getD]
    rw [Array.getElem?_append]
    split
    · simp
    · rename_i hlt
      simp only [List.size_toArray] at hlt
      rw [List.getElem?_eq_none (by omega), Array.getElem?_replicate]
      split <;> rfl
  refine wp_mono (wpF_sound hm c (fun d hd => by simpa using List.all_eq_true.1 hw d hd) hp _ (fun _ _ _ h => h) _ w _ h hfit) fun e a' w' ⟨f', h1, h2, _⟩ => ?_
  have key : resK P fn.results.toList f' [] (oneOf k) w' → bodyPost P fn (retK k) .ret a' w' := fun hr => by
    obtain ⟨vs, hv, hk⟩ := resK_run _ _ hr
    refine ⟨h1.defers, if h : vs.length = 1 then vs[0] else .tuple vs.toArray, ?_, ?_⟩
    · unfold results
      rw [Array.mapM_eq_mapM_toList]
      simp only [h1.eq, Sem.run_bind, Sem.run_map]
      erw [hv]
      simp
    · simp only [List.nil_append] at hk
      show k _ w'
      match vs, hk with
      | [], hk => exact hk
      | [v], hk => exact hk
      | _ :: _ :: _, hk => exact hk
  cases e with
  | normal => exact key h2
  | ret => exact key h2
  | _ => exact h2.elim

end Go.Sh
