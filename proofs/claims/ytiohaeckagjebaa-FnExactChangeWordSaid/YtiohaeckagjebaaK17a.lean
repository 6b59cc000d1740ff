/- Texts of this repository put together: Sh0, Sh1, ShA, Sh2, Sh3. -/
import Derived.Test.YtiohaeckagjebaaWLast
import Derived.Below
import Derived.KernelRfl
import Derived.Laws.Sem
import Derived.Test.YtiohaeckagjebaaProg
import Derived.Laws.AppendOwn
import Derived.Laws.OwnMore
import Derived.Laws.MakeOwn
import Derived.Laws.NewBlocks
import Derived.Laws.Entries
import Derived.ChangeKeysEq
import Derived.IntWalk

/- A frame calculus over the model's own rules: functions as continuation-passing terms over plain frames. -/
set_option linter.unusedVariables false
set_option linter.unusedSimpArgs false
namespace Go.Sh
open Go

/-! ### Frames -/
abbrev F := Nat → Value
def F.upd (f : F) (d : Nat) (v : Value) : F := fun t => bif Nat.beq t d then v else f t
def F.put (f : F) : Option Nat → Value → F
  | some d, v => f.upd d v
  | none, _ => f
def F.ev (f : F) : Operand → Value
  | .tmp t => f t
  | .const v => v
  | .global g => .pointer (some ⟨g, 0, none⟩)
  | .func g => .func (.func g) #[] #[]

theorem F.upd_same (f : F) (d : Nat) (v : Value) : f.upd d v d = v := by simp [F.upd]
theorem F.upd_ne (f : F) {d t : Nat} (v : Value) (h : t ≠ d) : f.upd d v t = f t := by
  have : Nat.beq t d = false := by
    cases h' : Nat.beq t d
    · rfl
    · exact absurd (Nat.eq_of_beq_eq_true h') h
  simp [F.upd, this]

structure Fits (n : Nat) (f : F) (a : Act) : Prop where
  size : a.tmps.size = n
  defers : a.defers = []
  eq : ∀ t, a.tmps.getD t undef = f t

theorem Fits.ev {n : Nat} {f : F} {a : Act} (h : Fits n f a) : a.eval = f.ev := by
  funext x
  cases x with
  | tmp t => exact h.eq t
  | _ => rfl

theorem Fits.put {n : Nat} {f : F} {a : Act} (h : Fits n f a) (o : Option Nat) (ho : ∀ d, o = some d → d < n) (v : Value) : Fits n (f.put o v) (a.put o v) := by
  cases o with
  | none => exact h
  | some d =>
    have hd := ho d rfl
    refine ⟨by simp [Act.put, h.size], h.defers, fun t => ?_⟩
    by_cases e : t = d
    · subst e
      have hs : t < a.tmps.size := by rw [h.size]; exact hd
      show (a.tmps.setIfInBounds t v).getD t undef = f.upd t v t
      rw [F.upd_same]
      simp [Array.getD, hs]
    · show (a.tmps.setIfInBounds d v).getD t undef = f.upd d v t
      rw [F.upd_ne _ _ e, ← h.eq t]
      simp only [Array.getD_eq_getD_getElem?]
      rw [Array.getElem?_setIfInBounds_ne (fun x => e x.symm)]

/-! ### What one operation does -/
structure WS where
  S : World → Prop
  w : World
  h : S w
def WS.at (w : World) : WS := ⟨fun w' => w' = w, w, rfl⟩
def WS.any : WS := ⟨fun _ => True, default, trivial⟩

def Rd (P : Program) (S : WS) (s : Sem Next) (k : Value → Prop) : Prop := ∃ v, (∀ w, S.S w → s.run P w = .ok (.value v) w) ∧ k v

theorem rd_eq {P : Program} {S : WS} {s : Sem Next} {k : Value → Prop} {v : Value} (h : ∀ w, S.S w → s.run P w = .ok (.value v) w) : Rd P S s k = k v :=
  propext ⟨fun ⟨v', h', hk⟩ => by
    have e := (h' S.w S.h).symm.trans (h S.w S.h)
    injection e with e1 _
    injection e1 with e2
    exact e2 ▸ hk, fun hk => ⟨v, h, hk⟩⟩

def retK (k : Value → World → Prop) : Ending → World → Prop
  | .returned v, w => k v w
  | _, _ => False

def HasBody (P : Program) (g : FuncId) : Prop := ∃ fn, P.funcs[g]? = some fn ∧ fn.body.isNone = false ∧ (fn.name == "runtime.NumGoroutine") = false

/-- The call of function g. -/
def CallK (P : Program) (g : FuncId) (args : List Value) (k : Value → World → Prop) (w : World) : Prop := HasBody P g ∧ Calls P g args.toArray w (retK k)

theorem CallK.mono {P : Program} {g : FuncId} {args : List Value} {k k' : Value → World → Prop} {w : World} (h : CallK P g args k w) (hk : ∀ v w', k v w' → k' v w') : CallK P g args k' w :=
  ⟨h.1, h.2.mono fun e w' he => by cases e <;> first | exact hk _ _ he | exact he⟩

def Do (P : Program) (s : Sem Next) (k : Value → World → Prop) (w : World) : Prop :=
  match s.run P w with
  | .ok (.value v) w' => k v w'
  | .ok .skip w' => k undef w'
  | .ok (.enter g args) w' => Calls P g args w' (retK k)
  | _ => False

theorem do_value {P : Program} {s : Sem Next} {k : Value → World → Prop} {w w' : World} {v : Value} (h : s.run P w = .ok (.value v) w') : Do P s k w = k v w' := by simp [Do, h]
theorem do_skip {P : Program} {s : Sem Next} {k : Value → World → Prop} {w w' : World} (h : s.run P w = .ok .skip w') : Do P s k w = k undef w' := by simp [Do, h]

/-! ### The operations, by their operands' values -/
def isC : Operand → Bool
  | .const _ => true
  | _ => false
def sPick (c a b : Value) : Sem Next := do pure (.value (if ← asBool c then a else b))
def sBin (op : BinOp) (t : TypeId) (c : Bool) (x y : Value) : Sem Next := do let v ← (do eqGuard op t (if c then .const undef else .tmp 0) (.tmp 0) x y; binOp op t x y); pure (.value v)
def sUn (op : UnOp) (x : Value) : Sem Next := do let v ← Op.unary op x; pure (.value v)
def sLoad (t : TypeId) (a : Value) : Sem Next := do let v ← Instr.loadAt t a; pure (.value v)
def sStore (t : TypeId) (a x : Value) : Sem Next := do Instr.storeAt t a x; pure .skip
def sIndexAddr (t : TypeId) (x i : Value) : Sem Next := do let v ← Instr.indexAt t x i; pure (.value v)
def sIndex (t : TypeId) (x i : Value) : Sem Next := do let v ← Instr.index t x i; pure (.value v)
def sSlice (t : TypeId) (x : Value) (lo hi mx : Option Value) : Sem Next := do let v ← Instr.sliceAt t x lo hi mx; pure (.value v)
def sField (t : TypeId) (x : Value) (i : Nat) : Sem Next := do let v ← Instr.field t x i; pure (.value v)
def sFieldAddr (t : TypeId) (x : Value) (i : Nat) : Sem Next := do let v ← Instr.fieldAt t x i; pure (.value v)
def sExtract (x : Value) (i : Nat) : Sem Next := do let v ← Instr.extract x i; pure (.value v)
def sNilCheck (x : Value) : Sem Next := execOp (fun _ => x) { dst := none, op := .nilCheck (.tmp 0), type := 0, pos := "", after := #[], guard := none }
def sConvert (s d : TypeId) (x : Value) : Sem Next := do let v ← convert s d x; pure (.value v)
def sBuild (t : TypeId) (ps : List (Nat × Value)) : Sem Next := do let v ← Instr.build t ps.toArray; pure (.value v)
def sAlloc (t : TypeId) : Sem Next := do let v ← Instr.alloc t true (.tuple #[]); pure (.value v)
def sBox (t : TypeId) (x : Value) : Sem Next := do let v ← Instr.box t x; pure (.value v)
def sBuildSlice (t : TypeId) (n : Nat) (ps : List (Nat × Value)) : Sem Next := do let v ← Instr.buildSlice t n ps.toArray; pure (.value v)
def sMakeSlice (t : TypeId) (l c : Value) : Sem Next := do let v ← Instr.makeSlice t l c; pure (.value v)
def sMakeIface (t : TypeId) (x : Value) : Sem Next := do let v ← Instr.makeInterface t x; pure (.value v)
def sMakeFunc (fn : Fn) (a b : List Value) : Sem Next := do let v ← Instr.makeFunc fn a.toArray b.toArray; pure (.value v)
def sBuiltin (b : Builtin) (ts : Array TypeId) (t : TypeId) (cs : List Bool) (xs : List Value) : Sem Next := builtin b ts t cs.toArray xs.toArray
def sCallV (x : Value) (args : List Value) (t : TypeId) : Sem Next := do let d ← Deferred.ofValue x args.toArray; invoke d.target d.args

def quietB : Builtin → Bool
  | .len | .cap | .min | .max => true
  | _ => false

def quietOp : Op → Bool
  | .move _ | .assign _ | .pick .. | .binOp .. | .unOp .. | .load .. | .indexAddr .. | .index .. | .slice .. | .field .. | .fieldAddr .. | .extract .. | .nilCheck _ | .build .. | .makeInterface .. | .makeFunc .. => true
  | .call { callee := .builtin b, .. } => quietB b
  | _ => false

/-- One operation: what reads is read in every world of S; what acts acts at w. -/
def opK (P : Program) (S : WS) (f : F) (o : Oper) (k : Value → World → Prop) (w : World) : Prop :=
  match o.op with
  | .move x => k (f.ev x) w
  | .assign x => k (f.ev x) w
  | .pick c a b => Rd P S (sPick (f.ev c) (f.ev a) (f.ev b)) fun v => k v w
  | .binOp op t x y _ => Rd P S (sBin op t (isC x || isC y) (f.ev x) (f.ev y)) fun v => k v w
  | .unOp op _ x => Rd P S (sUn op (f.ev x)) fun v => k v w
  | .load t a => Rd P S (sLoad t (f.ev a)) fun v => k v w
  | .indexAddr t x i => Rd P S (sIndexAddr t (f.ev x) (f.ev i)) fun v => k v w
  | .index t x i => Rd P S (sIndex t (f.ev x) (f.ev i)) fun v => k v w
  | .slice t x lo hi mx => Rd P S (sSlice t (f.ev x) (lo.map f.ev) (hi.map f.ev) (mx.map f.ev)) fun v => k v w
  | .field t x i => Rd P S (sField t (f.ev x) i) fun v => k v w
  | .fieldAddr t x i => Rd P S (sFieldAddr t (f.ev x) i) fun v => k v w
  | .extract x i => Rd P S (sExtract (f.ev x) i) fun v => k v w
  | .nilCheck x => Rd P S (sNilCheck (f.ev x)) fun v => k v w
  | .build t ps => Rd P S (sBuild t (ps.toList.map fun p => (p.1, f.ev p.2))) fun v => k v w
  | .makeInterface t x => Rd P S (sMakeIface t (f.ev x)) fun v => k v w
  | .makeFunc fn a b => Rd P S (sMakeFunc fn (a.toList.map f.ev) (b.toList.map f.ev)) fun v => k v w
  | .store t a x => Do P (sStore t (f.ev a) (f.ev x)) k w
  | .alloc t => Do P (sAlloc t) k w
  | .box t x => Do P (sBox t (f.ev x)) k w
  | .buildSlice t n ps => Do P (sBuildSlice t n (ps.toList.map fun p => (p.1, f.ev p.2))) k w
  | .makeSlice t l c => Do P (sMakeSlice t (f.ev l) (f.ev c)) k w
  | .convert s d x => Do P (sConvert s d (f.ev x)) k w
  | .call { callee := .builtin b, args, argTypes } =>
    bif quietB b then Rd P S (sBuiltin b argTypes o.type (args.toList.map isC) (args.toList.map f.ev)) fun v => k v w
    else Do P (sBuiltin b argTypes o.type (args.toList.map isC) (args.toList.map f.ev)) k w
  | .call { callee := .value (.func g), args, argTypes := _ } => CallK P g (args.toList.map f.ev) k w
  | .call { callee := .value x, args, argTypes := _ } => Do P (sCallV (f.ev x) (args.toList.map f.ev) o.type) k w
  | _ => Do P (execOp f.ev o) k w

theorem toArray_map {α β : Type} (g : α → β) (l : Array α) : (l.toList.map g).toArray = l.map g := by rw [← Array.toList_map]

theorem eqGuard_const {op : BinOp} {t : TypeId} {x y : Operand} {a b : Value} : eqGuard op t (if isC x || isC y then .const undef else .tmp 0) (.tmp 0) a b = eqGuard op t x y a b := by
  unfold eqGuard
  cases x <;> cases y <;> rfl

theorem opK_yields {P : Program} {S : WS} {f : F} {o : Oper} {k : Value → World → Prop} {w : World} (hq : quietOp o.op = true) (h : opK P S f o k w) :
    ∃ v, (∀ w', S.S w' → (execOp f.ev o).run P w' = .ok (.value v) w') ∧ k v w := by
  obtain ⟨dst, op, ty, pos, after, guard⟩ := o
  cases op <;> simp only [quietOp, Bool.false_eq_true] at hq
  case move x => exact ⟨_, fun _ _ => rfl, h⟩
  case assign x => exact ⟨_, fun _ _ => rfl, h⟩
  case binOp op t x y u =>
    obtain ⟨v, hv, hk⟩ := h
    refine ⟨v, fun w' hw => ?_, hk⟩
    rw [← hv w' hw]
    simp only [sBin, eqGuard_const]
    rfl
  case nilCheck x =>
    obtain ⟨v, hv, hk⟩ := h
    exact ⟨v, fun w' hw => (by rw [← hv w' hw]; rfl), hk⟩
  case build t ps =>
    obtain ⟨v, hv, hk⟩ := h
    refine ⟨v, fun w' hw => ?_, hk⟩
    rw [← hv w' hw]
    simp only [sBuild, toArray_map]
    rfl
  case makeFunc fn p q =>
    obtain ⟨v, hv, hk⟩ := h
    refine ⟨v, fun w' hw => ?_, hk⟩
    rw [← hv w' hw]
    simp only [sMakeFunc, toArray_map]
    rfl
  case call c =>
    obtain ⟨callee, args, ts⟩ := c
    cases callee <;> simp only [Bool.false_eq_true] at hq
    case builtin b =>
      simp only [opK, hq, cond_true] at h
      obtain ⟨v, hv, hk⟩ := h
      refine ⟨v, fun w' hw => ?_, hk⟩
      rw [← hv w' hw]
      simp only [sBuiltin, toArray_map]
      rfl
  all_goals exact h

theorem callee_enter {P : Program} {g : FuncId} (hb : HasBody P g) {f : F} {dst : Option Tmp} {args : Array Operand} {ts : Array TypeId} {ty : TypeId} {pos : String} {after : Array Edge} {gd : Option (Nat × Bool)} (w : World) :
    (execOp f.ev { dst, op := .call { callee := .value (.func g), args, argTypes := ts }, type := ty, pos, after, guard := gd }).run P w = .ok (.enter g (args.toList.map f.ev).toArray) w := by
  obtain ⟨fn, hf, hbody, hname⟩ := hb
  rw [toArray_map]
  have h1 : ¬ fn.name = "runtime.NumGoroutine" := by simpa using hname
  have h2 : ¬ fn.body = none := by
    intro e
    rw [e] at hbody
    cases hbody
  simp [execOp, resolve, Deferred.ofValue, F.ev, invoke, callFunc, program, hf, h1, h2, Sem.run]

end Go.Sh

/- The frame calculus, second part: its soundness over the model's own rules. -/
set_option linter.unusedVariables false
set_option linter.unusedSimpArgs false
namespace Go.Sh
open Go Go.Proofs.YtiohaeckagjebaaW.PrintLast

theorem do_upon {P : Program} {f : F} {o : Oper} {k : Value → World → Prop} {w : World} {a : Act} {next : Act → World → Prop} {Q : Exit → Act → World → Prop}
    (h : Do P (execOp f.ev o) k w) (hn : ∀ v w', k v w' → next (a.put o.dst v) w') : o.upon P a next Q ((execOp f.ev o).run P w) := by
  unfold Do at h
  generalize (execOp f.ev o).run P w = r at *
  cases r with
  | halt x w' => exact h.elim
  | ok x w' =>
    cases x <;> first | exact hn _ _ h | exact h.elim | skip
    exact Calls.mono h fun e w'' he => by cases e <;> first | exact hn _ _ he | exact he.elim

theorem opK_wp {P : Program} {S : WS} {f : F} {o : Oper} {k : Value → World → Prop} {w : World} {a : Act} {next : Act → World → Prop} {Q : Exit → Act → World → Prop}
    (hS : quietOp o.op = true → S.S w) (hf : a.eval = f.ev) (h : opK P S f o k w) (hn : ∀ v w', k v w' → next (a.put o.dst v) w') : o.wp P a w next Q := by
  unfold Oper.wp
  rw [hf]
  by_cases hq : quietOp o.op = true
  · obtain ⟨v, hv, hk⟩ := opK_yields hq h
    rw [hv w (hS hq)]
    exact hn _ _ hk
  · obtain ⟨dst, op, ty, pos, after, guard⟩ := o
    cases op
    case call c =>
      obtain ⟨callee, args, ts⟩ := c
      cases callee
      case builtin b =>
        have hb : quietB b = false := by
          cases e : quietB b
          · rfl
          · exact absurd e hq
        simp only [opK, hb, cond_false, sBuiltin, toArray_map] at h
        exact do_upon h hn
      case value x =>
        cases x
        case func g =>
          obtain ⟨hb, hc⟩ := h
          rw [callee_enter hb]
          exact Calls.mono hc fun e w'' he => by cases e <;> first | exact hn _ _ he | exact he.elim
        all_goals
          simp only [opK, sCallV, toArray_map] at h
          refine do_upon (o := { dst, op := .call { callee := .value _, args, argTypes := ts }, type := ty, pos, after, guard }) (f := f) ?_ hn
          simp only [execOp, resolve]
          exact h
      case invoke r m => exact do_upon h hn
    case buildSlice t m ps =>
      simp only [opK, sBuildSlice, toArray_map] at h
      exact do_upon h hn
    all_goals first | exact absurd rfl hq | exact do_upon h hn

/-! ### Guards -/
def GuardK (g : Value) (want : Bool) (run : (Value → World → Prop) → World → Prop) (k : Value → World → Prop) (w : World) : Prop :=
  match g with
  | .bool b => bif b == want then run k w else k undef w
  | _ => k undef w
def gval (ops : List Oper) (f : F) (j : Nat) : Value :=
  match ops[j]? with
  | some o => match o.dst with
    | some d => f d
    | none => undef
  | none => undef
def stepK (P : Program) (S : WS) (ops : List Oper) (f : F) (o : Oper) (k : Value → World → Prop) (w : World) : Prop :=
  match o.guard with
  | none => opK P S f o k w
  | some (j, want) => GuardK (gval ops f j) want (fun k w => opK P S f o k w) k w

theorem wanted_none {ops : Array Oper} {o : Oper} {t : Array Value} (h : o.guard = none) : Region.wanted o (yielded ops t) = true := by simp [Region.wanted, h]
theorem yielded_fits {ops : Array Oper} {n : Nat} {f : F} {a : Act} (hf : Fits n f a) (j : Nat) : yielded ops a.tmps j = match gval ops.toList f j with | .bool b => some b | _ => none := by
  unfold yielded gval
  rw [Array.getElem?_toList]
  cases h : ops[j]? with
  | none => rfl
  | some o =>
    simp only [Option.bind_some]
    cases hd : o.dst with
    | none => rfl
    | some d =>
      simp only [Option.bind_some]
      rw [← hf.eq d, Array.getD_eq_getD_getElem?]
      cases a.tmps[d]? with
      | none => rfl
      | some v => cases v <;> rfl

/-- A guarded operation is carried out, or it is left out. -/
theorem stepK_cases {P : Program} {S : WS} {ops : Array Oper} {n : Nat} {f : F} {a : Act} {o : Oper} {k : Value → World → Prop} {w : World} (hf : Fits n f a) (h : stepK P S ops.toList f o k w) :
    (Region.wanted o (yielded ops a.tmps) = true ∧ opK P S f o k w) ∨ (Region.wanted o (yielded ops a.tmps) = false ∧ k undef w) := by
  unfold stepK at h
  split at h
  · rename_i hg
    exact .inl ⟨wanted_none hg, h⟩
  · rename_i j want hg
    unfold GuardK at h
    have hw : Region.wanted o (yielded ops a.tmps) = (yielded ops a.tmps j == some want) := by simp [Region.wanted, hg]
    rw [hw, yielded_fits hf]
    split at h
    · rename_i b hb
      cases hbw : b == want
      · rw [hbw] at h
        exact .inr ⟨by simpa using hbw, h⟩
      · rw [hbw] at h
        exact .inl ⟨by simpa using hbw, h⟩
    · rename_i hb
      exact .inr ⟨rfl, h⟩

def Agree (W : List Nat) (f0 f : F) : Prop := ∀ s, s ∉ W → f s = f0 s
theorem Agree.refl (W : List Nat) (f : F) : Agree W f f := fun _ _ => rfl
theorem Agree.trans {W : List Nat} {f g h : F} (a : Agree W f g) (b : Agree W g h) : Agree W f h := fun s hs => (b s hs).trans (a s hs)
theorem Agree.put {W : List Nat} {f0 f : F} (h : Agree W f0 f) (o : Option Nat) (ho : ∀ d, o = some d → d ∈ W) (v : Value) : Agree W f0 (f.put o v) := by
  cases o with
  | none => exact h
  | some d =>
    intro s hs
    have : s ≠ d := fun e => hs (e ▸ ho d rfl)
    exact (F.upd_ne f v this).trans (h s hs)
theorem Agree.sub {W W' : List Nat} {f g : F} (h : Agree W f g) (hs : ∀ s, s ∈ W → s ∈ W') : Agree W' f g := fun s hn => h s (fun hm => hn (hs s hm))

def dsts (ops : List Oper) : List Nat := ops.filterMap (·.dst)

/-! ### A region whose order is the text's -/
def opsK (P : Program) (ops : List Oper) : List Oper → F → (F → World → Prop) → World → Prop
  | [], f, k, w => k f w
  | o :: r, f, k, w => stepK P (WS.at w) ops f o (fun v w' => opsK P ops r (f.put o.dst v) k w') w

theorem opsK_sound {P : Program} {ops : Array Oper} {n : Nat} {W : List Nat} {k : F → World → Prop} {Q : Exit → Act → World → Prop} {f0 : F}
    (hQ : ∀ f a w, Fits n f a → Agree W f0 f → k f w → Q .normal a w) (hW : ∀ d ∈ W, d < n) :
    ∀ (suf pre : List Oper) (f : F) (a : Act) (w : World), ops.toList = pre ++ suf → (∀ d ∈ dsts suf, d ∈ W) → Fits n f a → Agree W f0 f → opsK P ops.toList suf f k w → wpOps P ops Q (List.range' pre.length suf.length) a w := by
  intro suf
  induction suf with
  | nil => intro pre f a w _ _ hf ha h; exact hQ f a w hf ha h
  | cons o r ih =>
    intro pre f a w he hd hf ha h
    have ho : ops[pre.length]? = some o := by
      rw [← Array.getElem?_toList, he]
      simp
    have hod : ∀ d, o.dst = some d → d ∈ W := fun d e => hd d (by simp [dsts, List.filterMap_cons, e])
    have hrd : ∀ d ∈ dsts r, d ∈ W := fun d hm => hd d (by
      unfold dsts at hm ⊢
      rw [List.filterMap_cons]
      split
      · exact hm
      · exact List.mem_cons_of_mem _ hm)
    have next : ∀ v w', opsK P ops.toList r (f.put o.dst v) k w' → wpOps P ops Q (List.range' (pre.length + 1) r.length) (a.put o.dst v) w' := fun v w' h' => by
      have := ih (pre ++ [o]) (f.put o.dst v) (a.put o.dst v) w' (by rw [he]; simp) hrd (hf.put _ (fun d e => hW d (hod d e)) v) (ha.put _ hod v) h'
      simpa using this
    rw [List.length_cons, List.range'_succ, wpOps_cons]
    unfold wpOp
    simp only [ho]
    rcases stepK_cases hf h with ⟨hw, h1⟩ | ⟨hw, h1⟩
    · rw [if_pos hw]
      exact .inl (opK_wp (S := WS.at w) (fun _ => rfl) hf.ev h1 next)
    · rw [if_neg (by simp [hw])]
      exact next _ _ h1

/-! ### A region that draws its order: a plan -/
inductive Kd where
  | any | held | one | last
  deriving DecidableEq
/-- Steps of a plan; at a fork either of two may come first. -/
inductive Steps where
  | nil
  | step (i : Nat) (kd : Kd) (r : Steps)
  | fork (i : Nat) (a : Steps) (j : Nat) (b : Steps)
structure Plan where
  gen : Bool
  ds : List Nat
  steps : Steps

def quietAt (ops : Array Oper) (i : Nat) : Bool := ((ops[i]?).map fun o => quietOp o.op).getD false
def stepsOK (ops : Array Oper) (ds : List Nat) : Steps → Nat → Array Bool → Bool → Bool
  | .nil, n, l, _ => (n == 0) && (Region.ready .any ops l == [])
  | .step _ _ _, 0, _, _ => false
  | .step i .any r, n + 1, l, s => quietAt ops i && anyB .any ops l (l.setIfInBounds i true) i && stepsOK ops ds r n (l.setIfInBounds i true) s
  | .step i .held r, n + 1, l, s => s && quietAt ops i && takeB .any ops ds l (l.setIfInBounds i true) i && stepsOK ops ds r n (l.setIfInBounds i true) s
  | .step i .one r, n + 1, l, s => s && !ds.contains i && (Region.ready .any ops l == [i]) && stepsOK ops ds r n (l.setIfInBounds i true) s
  | .step i .last r, n + 1, l, s => !quietAt ops i && ds.contains i && (Region.ready .any ops l == [i]) && stepsOK ops ds r n (l.setIfInBounds i true) false
  | .fork _ _ _ _, 0, _, _ => false
  | .fork i a j b, n + 1, l, s => s && !ds.contains i && !ds.contains j && (Region.ready .any ops l == [i, j]) && stepsOK ops ds a n (l.setIfInBounds i true) s && stepsOK ops ds b n (l.setIfInBounds j true) s
def planOK (ops : Array Oper) (p : Plan) : Bool := stepsOK ops p.ds p.steps ops.size (Array.replicate ops.size false) true

def stepsK (P : Program) (ops : List Oper) (S : WS) : Steps → F → (F → World → Prop) → World → Prop
  | .nil, f, k, w => k f w
  | .step i kd r, f, k, w =>
    match ops[i]? with
    | none => False
    | some o =>
      match kd with
      | .any => stepK P WS.any ops f o (fun v w' => stepsK P ops S r (f.put o.dst v) k w') w
      | .held => stepK P S ops f o (fun v w' => stepsK P ops S r (f.put o.dst v) k w') w
      | .one => stepK P S ops f o (fun v w' => S.S w' ∧ stepsK P ops S r (f.put o.dst v) k w') w
      | .last => stepK P S ops f o (fun v w' => stepsK P ops S r (f.put o.dst v) k w') w
  | .fork i a j b, f, k, w =>
    match ops[i]?, ops[j]? with
    | some o, some u => stepK P S ops f o (fun v w' => S.S w' ∧ stepsK P ops S a (f.put o.dst v) k w') w ∧ stepK P S ops f u (fun v w' => S.S w' ∧ stepsK P ops S b (f.put u.dst v) k w') w
    | _, _ => False
def drawK (P : Program) (ops : List Oper) (p : Plan) (f : F) (k : F → World → Prop) (w : World) : Prop :=
  bif p.gen then ∃ S : World → Prop, ∃ h : S w, stepsK P ops ⟨S, w, h⟩ p.steps f k w
  else stepsK P ops (WS.at w) p.steps f k w

theorem stepsK_sound {P : Program} {ops : Array Oper} {n : Nat} {W : List Nat} {k : F → World → Prop} {Q : Exit → Act → World → Prop} {f0 : F} {S : WS} {ds : List Nat}
    (hQ : ∀ f a w, Fits n f a → Agree W f0 f → k f w → Q .normal a w) (hP : ∀ c a w, ¬ Q (.panic c) a w) (hW : ∀ d ∈ W, d < n) (hD : ∀ d ∈ dsts ops.toList, d ∈ W) :
    ∀ (steps : Steps) (m : Nat) (l : Array Bool) (s : Bool) (f : F) (a : Act) (w : World), stepsOK ops ds steps m l s = true → (s = true → S.S w) → Fits n f a → Agree W f0 f →
      stepsK P ops.toList S steps f k w → wpAnyLast P .any ops Q S.S ds m l a w := by
  have hdst : ∀ {i : Nat} {o : Oper}, ops[i]? = some o → ∀ d, o.dst = some d → d ∈ W := fun {i o} ho d e => hD d (List.mem_filterMap.2 ⟨o, by
    rw [← Array.getElem?_toList] at ho
    exact List.mem_of_getElem? ho, e⟩)
  have hone : ∀ {i m : Nat} {o : Oper} {r : Steps} {l : Array Bool} {s : Bool} {f : F} {a : Act} {w : World}, ops[i]? = some o → s = true → (s = true → S.S w) → Fits n f a → Agree W f0 f → stepsOK ops ds r m (l.setIfInBounds i true) s = true →
      stepK P S ops.toList f o (fun v w' => S.S w' ∧ stepsK P ops.toList S r (f.put o.dst v) k w') w →
      (∀ (l : Array Bool) (s : Bool) (f : F) (a : Act) (w : World), stepsOK ops ds r m l s = true → (s = true → S.S w) → Fits n f a → Agree W f0 f → stepsK P ops.toList S r f k w → wpAnyLast P .any ops Q S.S ds m l a w) →
      wpOp P ops Q i (fun a' w' => (i ∉ ds → S.S w → S.S w') ∧ wpAnyLast P .any ops Q S.S ds m (l.setIfInBounds i true) a' w') a w := by
    intro i m o r l s f a w ho hs1 hs hf ha hok h ih
    unfold wpOp
    simp only [ho]
    have go : ∀ v w', S.S w' → stepsK P ops.toList S r (f.put o.dst v) k w' → wpAnyLast P .any ops Q S.S ds m (l.setIfInBounds i true) (a.put o.dst v) w' :=
      fun v w' h2 h3 => ih _ s _ _ _ hok (fun _ => h2) (hf.put _ (fun d e => hW d (hdst ho d e)) v) (ha.put _ (hdst ho) v) h3
    rcases stepK_cases hf h with ⟨hw, h'⟩ | ⟨hw, h'⟩
    · rw [if_pos hw]
      exact .inl (opK_wp (fun _ => hs hs1) hf.ev h' fun v w' hk => ⟨fun _ _ => hk.1, go v w' hk.1 hk.2⟩)
    · rw [if_neg (by simp [hw])]
      exact ⟨fun _ _ => h'.1, go undef w h'.1 h'.2⟩
  intro steps
  induction steps with
  | nil =>
    intro m l s f a w hok _ hf ha h
    simp only [stepsOK, Bool.and_eq_true, beq_iff_eq] at hok
    obtain ⟨rfl, hok⟩ := hok
    exact ⟨hok, hQ f a w hf ha h⟩
  | fork i x j y ihx ihy =>
    intro m l s f a w hok hs hf ha h
    cases m with
    | zero => simp [stepsOK] at hok
    | succ m =>
    simp only [stepsOK, Bool.and_eq_true] at hok
    obtain ⟨⟨⟨⟨⟨h0, h1⟩, h2⟩, h3⟩, h4⟩, h5⟩ := hok
    have h3' : Region.ready .any ops l = [i, j] := by simpa using h3
    unfold stepsK at h
    split at h
    · rename_i o u ho hu
      rw [Array.getElem?_toList] at ho hu
      refine wpAnyLast_all h3' (by simp) fun e he => ?_
      have : e = i ∨ e = j := by simpa using he
      rcases this with rfl | rfl
      · exact hone ho h0 hs hf ha h4 h.1 fun l s f a w => ihx m l s f a w
      · exact hone hu h0 hs hf ha h5 h.2 fun l s f a w => ihy m l s f a w
    · exact h.elim
  | step i kd r ih =>
    intro m l s f a w hok hs hf ha h
    cases m with
    | zero => simp [stepsOK] at hok
    | succ m =>
    unfold stepsK at h
    split at h
    · exact h.elim
    · rename_i o ho
      rw [Array.getElem?_toList] at ho
      have hod : ∀ d, o.dst = some d → d ∈ W := hdst ho
      have hq : quietAt ops i = true → quietOp o.op = true := fun h => by simpa [quietAt, ho] using h
      have go : ∀ v w' s', stepsOK ops ds r m (l.setIfInBounds i true) s' = true → (s' = true → S.S w') → stepsK P ops.toList S r (f.put o.dst v) k w' → wpAnyLast P .any ops Q S.S ds m (l.setIfInBounds i true) (a.put o.dst v) w' :=
        fun v w' s' h1 h2 h3 => ih _ _ s' _ _ _ h1 h2 (hf.put _ (fun d e => hW d (hod d e)) v) (ha.put _ hod v) h3
      cases kd with
      | any =>
        simp only [stepsOK, Bool.and_eq_true] at hok
        obtain ⟨⟨h1, h2⟩, h3⟩ := hok
        simp only at h
        have hy : ∃ v, Yields P ops o v a ∧ stepsK P ops.toList S r (f.put o.dst v) k w := by
          rcases stepK_cases hf h with ⟨hw, h'⟩ | ⟨hw, h'⟩
          · obtain ⟨v, hv, hk⟩ := opK_yields (hq h1) h'
            exact ⟨v, .inl ⟨hw, fun w' => by rw [hf.ev]; exact hv w' trivial⟩, hk⟩
          · exact ⟨undef, .inr ⟨hw, rfl⟩, h'⟩
        obtain ⟨v, hy, hk⟩ := hy
        exact pure_ _ ho rfl h2 (fun c a w hq => absurd hq (hP c _ w)) hy rfl (go v w s h3 hs hk)
      | held =>
        simp only [stepsOK, Bool.and_eq_true] at hok
        obtain ⟨⟨⟨h0, h1⟩, h2⟩, h3⟩ := hok
        simp only at h
        have hy : ∃ v, YieldsIf P ops S.S o v a ∧ stepsK P ops.toList S r (f.put o.dst v) k w := by
          rcases stepK_cases hf h with ⟨hw, h'⟩ | ⟨hw, h'⟩
          · obtain ⟨v, hv, hk⟩ := opK_yields (hq h1) h'
            exact ⟨v, .inl ⟨hw, fun w' hw' => by rw [hf.ev]; exact hv w' hw'⟩, hk⟩
          · exact ⟨undef, .inr ⟨hw, rfl⟩, h'⟩
        obtain ⟨v, hy, hk⟩ := hy
        exact take_ _ ho rfl h2 (fun c a w hq => absurd hq (hP c _ w)) hy (hs h0) rfl (go v w s h3 hs hk)
      | one =>
        simp only [stepsOK, Bool.and_eq_true] at hok
        obtain ⟨⟨⟨h0, h1⟩, h2⟩, h3⟩ := hok
        simp only at h
        have h2' : Region.ready .any ops l = [i] := by simpa using h2
        refine wpAnyLast_all h2' (by simp) fun j hj => ?_
        have hji : j = i := by simpa using hj
        subst hji
        unfold wpOp
        simp only [ho]
        rcases stepK_cases hf h with ⟨hw, h'⟩ | ⟨hw, h'⟩
        · rw [if_pos hw]
          exact .inl (opK_wp (fun _ => hs h0) hf.ev h' fun v w' hk => ⟨fun _ _ => hk.1, go v w' s h3 (fun _ => hk.1) hk.2⟩)
        · rw [if_neg (by simp [hw])]
          exact ⟨fun _ _ => h'.1, go undef w s h3 (fun _ => h'.1) h'.2⟩
      | last =>
        simp only [stepsOK, Bool.and_eq_true] at hok
        obtain ⟨⟨⟨h0, h1⟩, h2⟩, h3⟩ := hok
        simp only at h
        have hnq : quietOp o.op = true → S.S w := fun e => by simp [quietAt, ho, e] at h0
        have h2' : Region.ready .any ops l = [i] := by simpa using h2
        have hid : i ∈ ds := by simpa using h1
        refine wpAnyLast_all h2' (by simp) fun j hj => ?_
        have hji : j = i := by simpa using hj
        subst hji
        unfold wpOp
        simp only [ho]
        rcases stepK_cases hf h with ⟨hw, h'⟩ | ⟨hw, h'⟩
        · rw [if_pos hw]
          refine .inl (opK_wp hnq hf.ev h' fun v w' hk => ⟨fun hn => absurd hid hn, go v w' false h3 (fun h => by cases h) hk⟩)
        · rw [if_neg (by simp [hw])]
          exact ⟨fun hn => absurd hid hn, go undef w false h3 (fun h => by cases h) h'⟩

theorem plan_sound {P : Program} {ops : Array Oper} {n : Nat} {W : List Nat} {k : F → World → Prop} {Q : Exit → Act → World → Prop} {id : Nat} {p : Plan} {f : F} {a : Act} {w : World} (hm : P.follows .mixedOrders = true)
    (hQ : ∀ f' a w, Fits n f' a → Agree W f f' → k f' w → Q .normal a w) (hP : ∀ c a w, ¬ Q (.panic c) a w) (hW : ∀ d ∈ W, d < n) (hD : ∀ d ∈ dsts ops.toList, d ∈ W)
    (hok : planOK ops p = true) (hf : Fits n f a) (h : drawK P ops.toList p f k w.drew) : (Code.region id ops true).wp P Q a w := by
  unfold planOK at hok
  unfold drawK at h
  cases hg : p.gen <;> rw [hg] at h
  · refine wp_region_last (S := (WS.at w.drew).S) (ds := p.ds) hm ?_
    exact stepsK_sound (S := WS.at w.drew) hQ hP hW hD p.steps _ _ true f a _ hok (fun _ => rfl) hf (Agree.refl _ _) h
  · obtain ⟨S, hS, h⟩ := h
    refine wp_region_last (S := S) (ds := p.ds) hm ?_
    exact stepsK_sound (S := ⟨S, w.drew, hS⟩) hQ hP hW hD p.steps _ _ true f a _ hok (fun _ => hS) hf (Agree.refl _ _) h

/-! ### Code -/
def seqQ (next : F → World → Prop) (Q : Exit → F → World → Prop) : Exit → F → World → Prop
  | .normal, f, w => next f w
  | e, f, w => Q e f w
def blockQ (id : Nat) (Q : Exit → F → World → Prop) : Exit → F → World → Prop
  | .exit i, f, w => bif Nat.beq i id then Q .normal f w else Q (.exit i) f w
  | e, f, w => Q e f w
def CondK (c : Value) (x y : Prop) : Prop :=
  match c with
  | .bool b => bif b then x else y
  | _ => False
/-- A loop: an invariant that the prover gives; W: the slots that its body may write. -/
def LoopF (W : List Nat) (body : (Exit → F → World → Prop) → F → World → Prop) (Q : Exit → F → World → Prop) (f0 : F) (w0 : World) : Prop :=
  ∃ (I : F → World → Prop) (μ : F → World → Nat), I f0 w0 ∧ ∀ f w, Agree W f0 f → I f w → body (seqQ (fun f' w' => I f' w' ∧ μ f' w' < μ f w) Q) f w

def Plans := Nat → Plan

def wr : Code → List Nat
  | .region _ ops _ => dsts ops.toList
  | .seq a b => wr a ++ wr b
  | .cond _ a b => wr a ++ wr b
  | .block _ b => wr b
  | .loop b => wr b
  | _ => []

def wpF (P : Program) (pl : Plans) : Code → (Exit → F → World → Prop) → F → World → Prop
  | .skip, Q, f, w => Q .normal f w
  | .region _ ops false, Q, f, w => opsK P ops.toList ops.toList f (fun f w => Q .normal f w) w
  | .region id ops true, Q, f, w => drawK P ops.toList (pl id) f (fun f w => Q .normal f w) w.drew
  | .seq a b, Q, f, w => wpF P pl a (seqQ (wpF P pl b Q) Q) f w
  | .cond c a b, Q, f, w => CondK (f.ev c) (wpF P pl a Q f w) (wpF P pl b Q f w)
  | .block id b, Q, f, w => wpF P pl b (blockQ id Q) f w
  | .loop b, Q, f, w => LoopF (wr b) (wpF P pl b) Q f w
  | .exit id, Q, f, w => Q (.exit id) f w
  | .ret, Q, f, w => Q .ret f w
  | _, _, _, _ => False

def plansOK (pl : Plans) : Code → Bool
  | .region id ops true => planOK ops (pl id)
  | .seq a b => plansOK pl a && plansOK pl b
  | .cond _ a b => plansOK pl a && plansOK pl b
  | .block _ b => plansOK pl b
  | .loop b => plansOK pl b
  | _ => true

def NoPanic (Q : Exit → F → World → Prop) : Prop := ∀ c f w, ¬ Q (.panic c) f w

/-- What a plain frame calculus says of code, the model's own rules say of it. -/
theorem wpF_sound {P : Program} {pl : Plans} (hm : P.follows .mixedOrders = true) {n : Nat} : ∀ (c : Code), (∀ d ∈ wr c, d < n) → plansOK pl c = true → ∀ (Q : Exit → F → World → Prop), NoPanic Q → ∀ (f : F) (w : World) (a : Act),
    wpF P pl c Q f w → Fits n f a → c.wp P (fun e a' w' => ∃ f', Fits n f' a' ∧ Q e f' w' ∧ Agree (wr c) f f') a w := by
  intro c
  induction c with
  | skip => intro _ _ Q _ f w a h hf; exact wp_skip ⟨f, hf, h, Agree.refl _ _⟩
  | exit id => intro _ _ Q _ f w a h hf; exact wp_exit ⟨f, hf, h, Agree.refl _ _⟩
  | ret => intro _ _ Q _ f w a h hf; exact wp_ret ⟨f, hf, h, Agree.refl _ _⟩
  | region id ops draw =>
    intro hW hok Q hQ f w a h hf
    cases draw with
    | false =>
      refine wp_region ?_
      have := opsK_sound (W := wr (.region id ops false)) (f0 := f) (Q := fun e a' w' => ∃ f', Fits n f' a' ∧ Q e f' w' ∧ Agree (wr (.region id ops false)) f f') (k := fun f w => Q .normal f w)
        (fun f' a w h1 h2 h3 => ⟨f', h1, h3, h2⟩) hW ops.toList [] f a w rfl (fun d hd => hd) hf (Agree.refl _ _) h
      simpa [List.range_eq_range'] using this
    | true =>
      exact plan_sound (W := wr (.region id ops true)) (Q := fun e a' w' => ∃ f', Fits n f' a' ∧ Q e f' w' ∧ Agree (wr (.region id ops true)) f f') hm
        (fun f' a w h1 h2 h3 => ⟨f', h1, h3, h2⟩) (fun c a w ⟨f', _, h, _⟩ => hQ _ _ _ h) hW (fun d hd => hd) hok hf h
  | seq x y ihx ihy =>
    intro hW hok Q hQ f w a h hf
    simp only [plansOK, Bool.and_eq_true] at hok
    have hx := ihx (fun d hd => hW d (List.mem_append_left _ hd)) hok.1 (seqQ (wpF P pl y Q) Q) (fun c f w h => hQ c f w h) f w a h hf
    refine wp_seq (wp_mono hx fun e a' w' ⟨f', hf', hq, hag⟩ => ?_)
    cases e with
    | normal =>
      exact wp_mono (ihy (fun d hd => hW d (List.mem_append_right _ hd)) hok.2 Q hQ f' w' a' hq hf') fun e a'' w'' ⟨f'', h1, h2, h3⟩ =>
        ⟨f'', h1, h2, (hag.sub (fun s hs => List.mem_append_left _ hs)).trans (h3.sub fun s hs => List.mem_append_right _ hs)⟩
    | _ => exact ⟨f', hf', hq, hag.sub fun s hs => List.mem_append_left _ hs⟩
  | cond c x y ihx ihy =>
    intro hW hok Q hQ f w a h hf
    simp only [plansOK, Bool.and_eq_true] at hok
    simp only [wpF, CondK] at h
    split at h
    · rename_i b hb
      have hc : a.eval c = .bool b := by rw [hf.ev]; exact hb
      refine wp_cond hc ?_
      cases b
      · exact wp_mono (ihy (fun d hd => hW d (List.mem_append_right _ hd)) hok.2 Q hQ f w a h hf) fun e a' w' ⟨f', h1, h2, h3⟩ => ⟨f', h1, h2, h3.sub fun s hs => List.mem_append_right _ hs⟩
      · exact wp_mono (ihx (fun d hd => hW d (List.mem_append_left _ hd)) hok.1 Q hQ f w a h hf) fun e a' w' ⟨f', h1, h2, h3⟩ => ⟨f', h1, h2, h3.sub fun s hs => List.mem_append_left _ hs⟩
    · exact h.elim
  | block id b ih =>
    intro hW hok Q hQ f w a h hf
    refine wp_block (wp_mono (ih hW hok (blockQ id Q) (fun c f w h => hQ c f w h) f w a h hf) fun e a' w' ⟨f', h1, h2, h3⟩ => ?_)
    cases e with
    | exit i =>
      show if i = id then _ else _
      simp only [blockQ] at h2
      by_cases hi : i = id
      · subst hi
        rw [if_pos rfl]
        rw [show Nat.beq i i = true from Nat.beq_refl i] at h2
        exact ⟨f', h1, h2, h3⟩
      · rw [if_neg hi]
        have hb : Nat.beq i id = false := by
          cases h' : Nat.beq i id
          · rfl
          · exact absurd (Nat.eq_of_beq_eq_true h') hi
        rw [hb] at h2
        exact ⟨f', h1, h2, h3⟩
    | _ => exact ⟨f', h1, h2, h3⟩
  | loop b ih =>
    intro hW hok Q hQ f w a h hf
    obtain ⟨I, μ, h0, hr⟩ := h
    have hex : ∃ μ' : Act → World → Nat, ∀ f' a' w', Fits n f' a' → μ' a' w' = μ f' w' := ⟨fun a' w' => μ (fun t => a'.tmps.getD t undef) w', fun f' a' w' hf' => by
      have : (fun t => a'.tmps.getD t undef) = f' := funext hf'.eq
      show μ (fun t => a'.tmps.getD t undef) w' = μ f' w'
      rw [this]⟩
    obtain ⟨μ', hμ⟩ := hex
    refine wp_loop (fun a' w' => ∃ f', Fits n f' a' ∧ Agree (wr b) f f' ∧ I f' w') μ' ⟨f, hf, Agree.refl _ _, h0⟩ ?_
    rintro a1 w1 ⟨f1, hf1, hag1, hI1⟩
    refine wp_mono (ih hW hok (seqQ (fun f' w' => I f' w' ∧ μ f' w' < μ f1 w1) Q) (fun c f w h => hQ c f w h) f1 w1 a1 (hr f1 w1 hag1 hI1) hf1) fun e a' w' ⟨f', h1, h2, h3⟩ => ?_
    cases e with
    | normal => exact ⟨⟨f', h1, hag1.trans h3, h2.1⟩, by rw [hμ f' a' w' h1, hμ f1 a1 w1 hf1]; exact h2.2⟩
    | _ => exact ⟨f', h1, h2, hag1.trans h3⟩
  | _ => intro _ _ Q _ f w a h hf; exact h.elim

/-! ### A function -/
def sLoadVar (t : TypeId) (a : Value) : Sem Next := (do loadVar t (← asAddr a)) >>= fun v => pure (.value v)
theorem value_bind {P : Program} {s : Sem Value} {w w' : World} {v : Value} (h : (s >>= fun v => (pure (.value v) : Sem Next)).run P w = .ok (.value v) w') : s.run P w = .ok v w' := by
  rw [Sem.run_bind] at h
  cases e : s.run P w with
  | ok v' w1 =>
    rw [e] at h
    simp at h
    rw [h.1, h.2]
  | halt x w1 =>
    rw [e] at h
    simp at h
def resK (P : Program) : List ResultVar → F → List Value → (List Value → World → Prop) → World → Prop
  | [], _, acc, k, w => k acc w
  | .tmp t :: r, f, acc, k, w => resK P r f (acc ++ [f t]) k w
  | .cell a t :: r, f, acc, k, w => Rd P (WS.at w) (sLoadVar t (f a)) fun v => resK P r f (acc ++ [v]) k w
def oneOf (k : Value → World → Prop) : List Value → World → Prop
  | [v], w => k v w
  | vs, w => k (.tuple vs.toArray) w
def bodyQ (P : Program) (rs : List ResultVar) (k : Value → World → Prop) : Exit → F → World → Prop
  | .normal, f, w => resK P rs f [] (oneOf k) w
  | .ret, f, w => resK P rs f [] (oneOf k) w
  | _, _, _ => False
def initF (args : List Value) : F := fun t => args.getD t undef

theorem resK_run {P : Program} {f : F} {w : World} {k : List Value → World → Prop} : ∀ (rs : List ResultVar) (acc : List Value), resK P rs f acc k w →
    ∃ vs, (rs.mapM (m := Sem) fun r => match r with | .tmp t => pure (f t) | .cell c t => do loadVar t (← asAddr (f c))).run P w = .ok vs w ∧ k (acc ++ vs) w := by
  intro rs
  induction rs with
  | nil => intro acc h; exact ⟨[], rfl, by rw [List.append_nil]; exact h⟩
  | cons r rs ih =>
    intro acc h
    cases r with
    | tmp t =>
      obtain ⟨vs, hv, hk⟩ := ih _ h
      refine ⟨f t :: vs, ?_, by simpa using hk⟩
      rw [List.mapM_cons]
      simp [hv]
    | cell c t =>
      obtain ⟨v, hv, h'⟩ := h
      obtain ⟨vs, hvs, hk⟩ := ih _ h'
      refine ⟨v :: vs, ?_, by simpa using hk⟩
      have hl := value_bind (hv w rfl)
      rw [List.mapM_cons, Sem.run_bind]
      simp only [hl]
      simp [hvs]

theorem call_of_wpF {P : Program} {pl : Plans} {g : FuncId} {fn : Func} {c : Code} {args : List Value} {w : World} {k : Value → World → Prop} (hm : P.follows .mixedOrders = true)
    (hg : P.funcs[g]? = some fn) (hb : fn.body = some c) (hn : (fn.name == "runtime.NumGoroutine") = false) (hl : args.length ≤ fn.ntmps) (hw : (wr c).all (fun d => Nat.blt d fn.ntmps) = true) (hp : plansOK pl c = true)
    (h : wpF P pl c (bodyQ P fn.results.toList k) (initF args) w) : CallK P g args k w := by
  refine ⟨⟨fn, hg, by simp [hb], hn⟩, calls_of_wp hg hb ?_⟩
  have hfit : Fits fn.ntmps (initF args) { tmps := args.toArray ++ Array.replicate (fn.ntmps - args.toArray.size) undef, defers := [] } := by
    refine ⟨by simp; omega, rfl, fun t => ?_⟩
    simp only [initF, Array.getD_eq_getD_getElem?, List.getD_eq_getElem?_getD]
    rw [Array.getElem?_append]
    split
    · simp
    · rename_i hlt
      simp only [List.size_toArray] at hlt
      rw [List.getElem?_eq_none (by omega), Array.getElem?_replicate]
      split <;> rfl
  refine wp_mono (wpF_sound hm c (fun d hd => by simpa using List.all_eq_true.1 hw d hd) hp _ (fun _ _ _ h => h) _ w _ h hfit) fun e a' w' ⟨f', h1, h2, _⟩ => ?_
  have key : resK P fn.results.toList f' [] (oneOf k) w' → bodyPost P fn (retK k) .ret a' w' := fun hr => by
    obtain ⟨vs, hv, hk⟩ := resK_run _ _ hr
    refine ⟨h1.defers, if h : vs.length = 1 then vs[0] else .tuple vs.toArray, ?_, ?_⟩
    · unfold results
      rw [Array.mapM_eq_mapM_toList]
      simp only [h1.eq, Sem.run_bind, Sem.run_map]
      erw [hv]
      simp
    · simp only [List.nil_append] at hk
      show k _ w'
      match vs, hk with
      | [], hk => exact hk
      | [v], hk => exact hk
      | _ :: _ :: _, hk => exact hk
  cases e with
  | normal => exact key h2
  | ret => exact key h2
  | _ => exact h2.elim

end Go.Sh

/- What is the seat's own and small. -/
namespace Go.Sh
open Go
def bodyOf (fn : Func) : Code := fn.body.getD .skip
def Join (b : (F → World → Prop) → Prop) (n : F → World → Prop) : Prop := b n
end Go.Sh
namespace Go.Proofs.Ytiohaeckagjebaa
open Go Go.Sh
theorem mixed : Try.prog.follows .mixedOrders = true := by kernel_rfl
end Go.Proofs.Ytiohaeckagjebaa

/- The frame calculus, third part: what each operation comes to. -/
set_option linter.unusedVariables false
set_option linter.unusedSimpArgs false
namespace Go.Sh
open Go

/-! ### Facts on types -/
def szOf (P : Program) (e : TypeId) (n : Nat) : Prop := ∃ i, P.info? e = some i ∧ i.size = n
def one (P : Program) (t : TypeId) : Prop := ∃ d, P.underlying t = some d ∧ (match d with | .struct _ => False | .array _ _ => False | _ => True)
def agg (P : Program) (t : TypeId) : Prop := ∃ d, P.underlying t = some d ∧ (match d with | .struct _ => True | .array _ _ => True | _ => False)
def fld (P : Program) (t : TypeId) (i off : Nat) : Prop := ∃ fs f n, P.underlying t = some (.struct fs) ∧ fs[i]? = some f ∧ f.offset = off ∧ szOf P f.type n ∧ n ≠ 0
theorem szOf_of {P : Program} {e : TypeId} {n : Nat} (h : (P.info? e).map (·.size) = some n) : szOf P e n := by
  cases hi : P.info? e with
  | none => rw [hi] at h; cases h
  | some i => rw [hi] at h; exact ⟨i, hi, by simpa using h⟩
def oneB (P : Program) (t : TypeId) : Bool := match P.underlying t with | some (.struct _) => false | some (.array _ _) => false | some _ => true | none => false
def aggB (P : Program) (t : TypeId) : Bool := match P.underlying t with | some (.struct _) => true | some (.array _ _) => true | _ => false
theorem one_of {P : Program} {t : TypeId} (h : oneB P t = true) : one P t := by
  unfold oneB at h
  cases hu : P.underlying t with
  | none => rw [hu] at h; cases h
  | some d => rw [hu] at h; exact ⟨d, hu, by cases d <;> first | trivial | (cases h)⟩
theorem agg_of {P : Program} {t : TypeId} (h : aggB P t = true) : agg P t := by
  unfold aggB at h
  cases hu : P.underlying t with
  | none => rw [hu] at h; cases h
  | some d => rw [hu] at h; exact ⟨d, hu, by cases d <;> first | trivial | (cases h)⟩
def fldB (P : Program) (t : TypeId) (i off : Nat) : Bool := match P.underlying t with
  | some (.struct fs) => match fs[i]? with
    | some f => f.offset == off && (match P.info? f.type with | some n => n.size != 0 | none => false)
    | none => false
  | _ => false
theorem fld_of {P : Program} {t : TypeId} {i off : Nat} (h : fldB P t i off = true) : fld P t i off := by
  unfold fldB at h
  split at h
  · rename_i fs hu
    split at h
    · rename_i f hf
      simp only [Bool.and_eq_true, beq_iff_eq] at h
      obtain ⟨h1, h2⟩ := h
      split at h2
      · rename_i n hn
        exact ⟨fs, f, n.size, hu, hf, h1, ⟨n, hn, rfl⟩, by simpa using h2⟩
      · cases h2
    · cases h
  · cases h

section
variable {P : Program} {S : WS} {k : Value → Prop}
theorem run_info {t : TypeId} {i : TypeInfo} (h : P.info? t = some i) (w : World) : (typeInfo t).run P w = .ok i w := run_typeInfo w h
theorem run_size {e : TypeId} {n : Nat} (h : szOf P e n) (w : World) : (sizeOf e).run P w = .ok n w := by
  obtain ⟨i, hi, hn⟩ := h
  simp [sizeOf, run_info hi, hn]

/-! ### Numbers and bools -/
theorem guard_int (op : BinOp) (t : TypeId) (x y : Operand) (ka kb : IntKind) (a b : Int) (w : World) : (eqGuard op t x y (.int ka a) (.int kb b)).run P w = .ok () w := by
  unfold eqGuard
  cases op <;> rfl
theorem guard_bool (op : BinOp) (t : TypeId) (x y : Operand) (a b : Bool) (w : World) : (eqGuard op t x y (.bool a) (.bool b)).run P w = .ok () w := by
  unfold eqGuard
  cases op <;> rfl
theorem guard_str (op : BinOp) (t : TypeId) (x y : Operand) (a b : ByteArray) (w : World) : (eqGuard op t x y (.string a) (.string b)).run P w = .ok () w := by
  unfold eqGuard
  cases op <;> rfl
theorem rd_bin {op : BinOp} {t : TypeId} {c : Bool} {kd : IntKind} {x y : Int} {v : Value} (h : ∀ w, (binOp op t (.int kd x) (.int kd y)).run P w = .ok v w) :
    Rd P S (sBin op t c (.int kd x) (.int kd y)) k = k v := rd_eq fun w _ => by
  simp only [sBin, Sem.run_bind, guard_int, Result.andThen, h]
  rfl
@[go_sem] theorem bin_add {t : TypeId} {c : Bool} {kd : IntKind} {x y : Int} : Rd P S (sBin .add t c (.int kd x) (.int kd y)) k = k (.int kd (kd.wrap (x + y))) := rd_bin fun w => by simp [binOp, Op.intArith]
@[go_sem] theorem bin_sub {t : TypeId} {c : Bool} {kd : IntKind} {x y : Int} : Rd P S (sBin .sub t c (.int kd x) (.int kd y)) k = k (.int kd (kd.wrap (x - y))) := rd_bin fun w => by simp [binOp, Op.intArith]
@[go_sem] theorem bin_mul {t : TypeId} {c : Bool} {kd : IntKind} {x y : Int} : Rd P S (sBin .mul t c (.int kd x) (.int kd y)) k = k (.int kd (kd.wrap (x * y))) := rd_bin fun w => by simp [binOp, Op.intArith]
@[go_sem] theorem bin_eql {t : TypeId} {c : Bool} {kd : IntKind} {x y : Int} : Rd P S (sBin .eql t c (.int kd x) (.int kd y)) k = k (.bool (decide (x = y))) := rd_bin fun w => by
  simp [binOp, Op.intCmp]
  rfl
@[go_sem] theorem bin_neq {t : TypeId} {c : Bool} {kd : IntKind} {x y : Int} : Rd P S (sBin .neq t c (.int kd x) (.int kd y)) k = k (.bool (!decide (x = y))) := rd_bin fun w => by
  simp [binOp, Op.intCmp]
  rfl
@[go_sem] theorem bin_lss {t : TypeId} {c : Bool} {kd : IntKind} {x y : Int} : Rd P S (sBin .lss t c (.int kd x) (.int kd y)) k = k (.bool (decide (x < y))) := rd_bin fun w => by simp [binOp, Op.intCmp]
@[go_sem] theorem bin_leq {t : TypeId} {c : Bool} {kd : IntKind} {x y : Int} : Rd P S (sBin .leq t c (.int kd x) (.int kd y)) k = k (.bool (decide (x ≤ y))) := rd_bin fun w => by simp [binOp, Op.intCmp]
@[go_sem] theorem bin_gtr {t : TypeId} {c : Bool} {kd : IntKind} {x y : Int} : Rd P S (sBin .gtr t c (.int kd x) (.int kd y)) k = k (.bool (decide (y < x))) := rd_bin fun w => by simp [binOp, Op.intCmp]
@[go_sem] theorem bin_geq {t : TypeId} {c : Bool} {kd : IntKind} {x y : Int} : Rd P S (sBin .geq t c (.int kd x) (.int kd y)) k = k (.bool (decide (y ≤ x))) := rd_bin fun w => by simp [binOp, Op.intCmp]
theorem bin_quo {t : TypeId} {c : Bool} {kd : IntKind} {x y : Int} (h : y ≠ 0) : Rd P S (sBin .quo t c (.int kd x) (.int kd y)) k = k (.int kd (kd.wrap (x.tdiv y))) := rd_bin fun w => by simp [binOp, Op.intDiv, h]
theorem bin_rem {t : TypeId} {c : Bool} {kd : IntKind} {x y : Int} (h : y ≠ 0) : Rd P S (sBin .rem t c (.int kd x) (.int kd y)) k = k (.int kd (x.tmod y)) := rd_bin fun w => by simp [binOp, Op.intDiv, h]
theorem bin_bool {op : BinOp} {t : TypeId} {c : Bool} {x y : Bool} {v : Value} (h : ∀ w, (binOp op t (.bool x) (.bool y)).run P w = .ok v w) :
    Rd P S (sBin op t c (.bool x) (.bool y)) k = k v := rd_eq fun w _ => by
  simp only [sBin, Sem.run_bind, guard_bool, Result.andThen, h]
  rfl
theorem run_equal_bool {t : TypeId} {x y : Bool} (ht : P.underlying t = some .bool) (d : Nat) (w : World) : (Op.equalIn (d + 1) t (.bool x) (.bool y)).run P w = .ok (x == y) w := by
  simp [Op.equalIn, run_underlying ht]
@[go_sem] theorem bin_eql_bool {t : TypeId} {c : Bool} {x y : Bool} (ht : P.underlying t = some .bool) : Rd P S (sBin .eql t c (.bool x) (.bool y)) k = k (.bool (x == y)) := bin_bool fun w => by
  show Sem.run P (do pure (Value.bool (← Op.equalIn (9999 + 1) t (.bool x) (.bool y)))) w = _
  simp only [Sem.run_bind, run_equal_bool ht 9999 w, Result.andThen]
  rfl
@[go_sem] theorem bin_neq_bool {t : TypeId} {c : Bool} {x y : Bool} (ht : P.underlying t = some .bool) : Rd P S (sBin .neq t c (.bool x) (.bool y)) k = k (.bool (!(x == y))) := bin_bool fun w => by
  show Sem.run P (do pure (Value.bool (!(← Op.equalIn (9999 + 1) t (.bool x) (.bool y))))) w = _
  simp only [Sem.run_bind, run_equal_bool ht 9999 w, Result.andThen]
  rfl
@[go_sem] theorem un_not {x : Bool} : Rd P S (sUn .not (.bool x)) k = k (.bool !x) := rd_eq fun w _ => rfl
@[go_sem] theorem un_neg {kd : IntKind} {x : Int} : Rd P S (sUn .neg (.int kd x)) k = k (.int kd (kd.wrap (-x))) := rd_eq fun w _ => by
  simp [sUn, Op.unary, Op.intArith]
@[go_sem] theorem pick_true {a b : Value} : Rd P S (sPick (.bool true) a b) k = k a := rd_eq fun w _ => rfl
@[go_sem] theorem pick_false {a b : Value} : Rd P S (sPick (.bool false) a b) k = k b := rd_eq fun w _ => rfl
theorem pick_bool {c : Bool} {a b : Value} : Rd P S (sPick (.bool c) a b) k = k (if c then a else b) := rd_eq fun w _ => rfl
@[go_sem] theorem extract_two_0 {a b : Value} : Rd P S (sExtract (.tuple #[a, b]) 0) k = k a := rd_eq fun w _ => rfl
@[go_sem] theorem extract_two_1 {a b : Value} : Rd P S (sExtract (.tuple #[a, b]) 1) k = k b := rd_eq fun w _ => rfl
@[go_sem] theorem extract_three_0 {a b c : Value} : Rd P S (sExtract (.tuple #[a, b, c]) 0) k = k a := rd_eq fun w _ => rfl
@[go_sem] theorem extract_three_1 {a b c : Value} : Rd P S (sExtract (.tuple #[a, b, c]) 1) k = k b := rd_eq fun w _ => rfl
@[go_sem] theorem extract_three_2 {a b c : Value} : Rd P S (sExtract (.tuple #[a, b, c]) 2) k = k c := rd_eq fun w _ => rfl
@[go_sem] theorem makeFunc_ {fn : Fn} {a b : List Value} : Rd P S (sMakeFunc fn a b) k = k (.func fn a.toArray b.toArray) := rd_eq fun w _ => rfl
@[go_sem] theorem nilCheck_pointer {a : Addr} : Rd P S (sNilCheck (.pointer (some a))) k = k (.pointer (some a)) := rd_eq fun w _ => rfl
@[go_sem] theorem nilCheck_func {g : FuncId} {a b : Array Value} : Rd P S (sNilCheck (.func (.func g) a b)) k = k (.func (.func g) a b) := rd_eq fun w _ => rfl
theorem min_int {kd : IntKind} {x y : Int} {ts : Array TypeId} {t : TypeId} {cs : List Bool} : Rd P S (sBuiltin .min ts t cs [.int kd x, .int kd y]) k = k (.int kd (if y < x then y else x)) := rd_eq fun w _ => by
  simp [sBuiltin, builtin, Builtin.min_, Builtin.min2]
theorem max_int {kd : IntKind} {x y : Int} {ts : Array TypeId} {t : TypeId} {cs : List Bool} : Rd P S (sBuiltin .max ts t cs [.int kd x, .int kd y]) k = k (.int kd (if x < y then y else x)) := rd_eq fun w _ => by
  simp [sBuiltin, builtin, Builtin.max_, Builtin.max2]
theorem len_slice {t e : TypeId} (ht : P.underlying t = some (.slice e)) {u : TypeId} {cs : List Bool} {A : Option Addr} {n c : Nat} : Rd P S (sBuiltin .len #[t] u cs [.slice A n c]) k = k (.int .i64 n) := rd_eq fun w _ => by
  simp [sBuiltin, builtin, Builtin.len_, run_underlying ht, goInt]

/-! ### Conditions and guards -/
@[go_sem] theorem cond_true' {x y : Prop} : CondK (.bool true) x y = x := rfl
@[go_sem] theorem cond_false' {x y : Prop} : CondK (.bool false) x y = y := rfl
theorem cond_split {b : Bool} {x y : Prop} (hx : b = true → x) (hy : b = false → y) : CondK (.bool b) x y := by
  cases b
  · exact hy rfl
  · exact hx rfl
@[go_sem] theorem guard_tt {run : (Value → World → Prop) → World → Prop} {k : Value → World → Prop} {w : World} : GuardK (.bool true) true run k w = run k w := rfl
@[go_sem] theorem guard_ff {run : (Value → World → Prop) → World → Prop} {k : Value → World → Prop} {w : World} : GuardK (.bool false) false run k w = run k w := rfl
@[go_sem] theorem guard_tf {run : (Value → World → Prop) → World → Prop} {k : Value → World → Prop} {w : World} : GuardK (.bool true) false run k w = k undef w := rfl
@[go_sem] theorem guard_ft {run : (Value → World → Prop) → World → Prop} {k : Value → World → Prop} {w : World} : GuardK (.bool false) true run k w = k undef w := rfl
@[go_sem] theorem guard_undef {want : Bool} {run : (Value → World → Prop) → World → Prop} {k : Value → World → Prop} {w : World} : GuardK undef want run k w = k undef w := rfl

/-! ### Ways out, frames -/
@[go_sem] theorem seqQ_normal {N : F → World → Prop} {Q : Exit → F → World → Prop} {f : F} {w : World} : seqQ N Q .normal f w = N f w := rfl
@[go_sem] theorem seqQ_ret {N : F → World → Prop} {Q : Exit → F → World → Prop} {f : F} {w : World} : seqQ N Q .ret f w = Q .ret f w := rfl
@[go_sem] theorem seqQ_exit {N : F → World → Prop} {Q : Exit → F → World → Prop} {i : Nat} {f : F} {w : World} : seqQ N Q (.exit i) f w = Q (.exit i) f w := rfl
@[go_sem] theorem blockQ_ret {id : Nat} {Q : Exit → F → World → Prop} {f : F} {w : World} : blockQ id Q .ret f w = Q .ret f w := rfl
@[go_sem] theorem blockQ_normal {id : Nat} {Q : Exit → F → World → Prop} {f : F} {w : World} : blockQ id Q .normal f w = Q .normal f w := rfl
@[go_sem] theorem blockQ_exit {id i : Nat} {Q : Exit → F → World → Prop} {f : F} {w : World} : blockQ id Q (.exit i) f w = if i = id then Q .normal f w else Q (.exit i) f w := by
  by_cases h : i = id
  · subst h
    simp [blockQ]
  · have hb : Nat.beq i id = false := by
      cases h' : Nat.beq i id
      · rfl
      · exact absurd (Nat.eq_of_beq_eq_true h') h
    simp [blockQ, h, hb]
@[go_sem] theorem bodyQ_ret {P : Program} {rs : List ResultVar} {k : Value → World → Prop} {f : F} {w : World} : bodyQ P rs k .ret f w = resK P rs f [] (oneOf k) w := rfl
@[go_sem] theorem bodyQ_normal {P : Program} {rs : List ResultVar} {k : Value → World → Prop} {f : F} {w : World} : bodyQ P rs k .normal f w = resK P rs f [] (oneOf k) w := rfl
@[go_sem] theorem resK_nil {P : Program} {f : F} {acc : List Value} {k : List Value → World → Prop} {w : World} : resK P [] f acc k w = k acc w := rfl
@[go_sem] theorem resK_tmp {P : Program} {t : Tmp} {rs : List ResultVar} {f : F} {acc : List Value} {k : List Value → World → Prop} {w : World} : resK P (.tmp t :: rs) f acc k w = resK P rs f (acc ++ [f t]) k w := rfl
@[go_sem] theorem resK_cell {P : Program} {c t : Nat} {rs : List ResultVar} {f : F} {acc : List Value} {k : List Value → World → Prop} {w : World} : resK P (.cell c t :: rs) f acc k w = Rd P (WS.at w) (sLoadVar t (f c)) fun v => resK P rs f (acc ++ [v]) k w := rfl
@[go_sem] theorem oneOf_one {k : Value → World → Prop} {v : Value} {w : World} : oneOf k [v] w = k v w := rfl
@[go_sem] theorem oneOf_one' {k : Value → World → Prop} {v : Value} {w : World} : oneOf k ([] ++ [v]) w = k v w := rfl
@[go_sem] theorem oneOf_two' {k : Value → World → Prop} {u v : Value} {w : World} : oneOf k ([] ++ [u] ++ [v]) w = k (.tuple #[u, v]) w := rfl
@[go_sem] theorem oneOf_three' {k : Value → World → Prop} {u v x : Value} {w : World} : oneOf k ([] ++ [u] ++ [v] ++ [x]) w = k (.tuple #[u, v, x]) w := rfl
@[go_sem] theorem oneOf_nil {k : Value → World → Prop} {w : World} : oneOf k [] w = k (.tuple #[]) w := rfl
@[go_sem] theorem ite_T {α : Sort _} {x y : α} : (if True then x else y) = x := if_pos trivial
@[go_sem] theorem ite_F {α : Sort _} {x y : α} : (if False then x else y) = y := if_neg (fun h => h)
@[go_sem] theorem join_ {b : (F → World → Prop) → Prop} {n : F → World → Prop} : Join b n = b n := rfl
@[go_sem] theorem upd_at (f : F) (d t : Nat) (v : Value) : F.upd f d v t = if t = d then v else f t := by
  by_cases h : t = d
  · subst h
    simp [F.upd_same]
  · simp [F.upd_ne f v h, h]

/-! ### Addresses -/
def ad (A : Option Addr) : Addr := A.getD ⟨0, 0, none⟩
@[go_sem] theorem add_plain (b j i : Nat) : (⟨b, j, none⟩ : Addr).add i = ⟨b, j + i, none⟩ := by
  unfold Addr.add
  split
  · subst_vars; rfl
  · rfl
@[go_sem] theorem add_zero' (a : Addr) : a.add 0 = a := by simp [Addr.add]
theorem add_add (a : Addr) (i j : Nat) : (a.add i).add j = a.add (i + j) := by
  unfold Addr.add
  by_cases hi : i = 0
  · simp [hi]
  · by_cases hj : j = 0
    · simp [hi, hj]
    · simp [hi, hj, Nat.add_assoc]
theorem rd_indexAddr {t e : TypeId} {sz : Nat} (ht : P.underlying t = some (.slice e)) (hs : szOf P e sz) {A : Option Addr} {n c : Nat} {kd : IntKind} {i : Int} (hA : 0 < n → A = some (ad A)) (h0 : 0 ≤ i) (h1 : i < n) :
    Rd P S (sIndexAddr t (.slice A n c) (.int kd i)) k = k (.pointer (some ((ad A).add (i.toNat * sz)))) := rd_eq fun w _ => by
  rw [hA (by omega)]
  simp [sIndexAddr, Instr.indexAt, asIntOf, run_underlying ht, run_size hs, h0, h1, ad]
theorem rd_indexArr {t e : TypeId} {m sz : Nat} (ht : P.underlying t = some (.array m e)) (hs : szOf P e sz) {a : Addr} {kd : IntKind} {i : Int} (h0 : 0 ≤ i) (h1 : i < m) :
    Rd P S (sIndexAddr t (.pointer (some a)) (.int kd i)) k = k (.pointer (some (a.add (i.toNat * sz)))) := rd_eq fun w _ => by
  simp [sIndexAddr, Instr.indexAt, asIntOf, run_underlying ht, run_size hs, h0, h1, Instr.sureAddr]
theorem rd_fieldAddr {t : TypeId} {i off : Nat} (hf : fld P t i off) {a : Addr} : Rd P S (sFieldAddr t (.pointer (some a)) i) k = k (.pointer (some (a.add off))) := rd_eq fun w _ => by
  obtain ⟨fs, f, n, ht, hf, ho, hs, hn⟩ := hf
  simp [sFieldAddr, Instr.fieldAt, run_underlying ht, hf, Instr.sureAddr, fieldPlace, run_size hs, hn, ho]

/-! ### Reading memory -/
theorem run_isAgg_one {t : TypeId} (h : one P t) (w : World) : (isAgg t).run P w = .ok false w := by
  obtain ⟨d, hd, hm⟩ := h
  simp only [isAgg, Sem.run_bind, run_underlying hd, Result.andThen]
  cases d <;> first | rfl | exact hm.elim
theorem run_isAgg_agg {t : TypeId} (h : agg P t) (w : World) : (isAgg t).run P w = .ok true w := by
  obtain ⟨d, hd, hm⟩ := h
  simp only [isAgg, Sem.run_bind, run_underlying hd, Result.andThen]
  cases d <;> first | rfl | exact hm.elim
theorem run_load {a : Addr} {v : Value} {w : World} (h : w.cell? a = some v) : (load a).run P w = .ok v w := by simp [load, Sem.run, h]
theorem rd_load1 {t : TypeId} (ht : one P t) {a : Addr} {v : Value} (h : ∀ w, S.S w → w.cell? a = some v) : Rd P S (sLoad t (.pointer (some a))) k = k v := rd_eq fun w hw => by
  simp only [sLoad, Instr.loadAt, loadVar, Instr.sureAddr, Sem.run_bind, Sem.run_pure, Result.andThen, run_isAgg_one ht]
  simp [h w hw]
theorem run_loadCellsFrom {a : Addr} {w : World} : ∀ (cs : List Value) (i : Nat) (acc : Array Value), (∀ j (h : j < cs.length), w.cell? (a.add (i + j)) = some cs[j]) → (loadCellsFrom a i cs.length acc).run P w = .ok (acc ++ cs.toArray) w := by
  intro cs
  induction cs with
  | nil => intro i acc _; simp [loadCellsFrom]
  | cons c cs ih =>
    intro i acc h
    have h0 := h 0 (by simp)
    have := ih (i + 1) (acc.push c) fun j hj => by
      have := h (j + 1) (by simpa using hj)
      rw [show i + 1 + j = i + (j + 1) from by omega]
      simpa using this
    simp only [List.length_cons, loadCellsFrom, Sem.run_bind]
    rw [run_load (by simpa using h0)]
    simp only [Result.andThen]
    rw [this]
    simp
theorem rd_loadAgg {t : TypeId} {n : Nat} (ht : agg P t) (hs : szOf P t n) {a : Addr} {cs : List Value} (hn : cs.length = n) (h : ∀ w, S.S w → ∀ j (h : j < cs.length), w.cell? (a.add j) = some cs[j]) :
    Rd P S (sLoad t (.pointer (some a))) k = k (.agg cs.toArray) := rd_eq fun w hw => by
  have := run_loadCellsFrom (P := P) cs 0 #[] (fun j hj => by simpa using h w hw j hj)
  rw [hn] at this
  simp [sLoad, Instr.loadAt, loadVar, run_isAgg_agg ht, run_size hs, Instr.sureAddr, loadCells, this]
theorem sLoadVar_eq {t : TypeId} {a : Addr} (w : World) : (sLoadVar t (.pointer (some a))).run P w = (sLoad t (.pointer (some a))).run P w := by
  simp [sLoadVar, sLoad, Instr.loadAt, Instr.sureAddr, asAddr]
theorem rd_loadVar {t : TypeId} {a : Addr} : Rd P S (sLoadVar t (.pointer (some a))) k = Rd P S (sLoad t (.pointer (some a))) k := by
  simp only [Rd, sLoadVar_eq]

end

/-! ### Worlds that have grown -/
abbrev Gr (w w' : World) : Prop := w.grownBy w' none
theorem Gr.refl (w : World) : Gr w w := ⟨rfl, rfl, rfl, Nat.le_refl _, fun _ _ _ => rfl⟩
theorem gr_trans {a b c : World} (h : Gr a b) (g : Gr b c) : Gr a c :=
  ⟨g.os.trans h.os, g.tape.trans h.tape, g.output.trans h.output, Nat.le_trans h.size g.size, fun k hk hn => (g.block k (Nat.lt_of_lt_of_le hk h.size) (by simp)).trans (h.block k hk (by simp))⟩
theorem gr_mod {a b c : World} {r : Option Nat} (h : Gr a b) (g : b.grownBy c r) (hr : ∀ q, r = some q → a.heap.size ≤ q) : Gr a c :=
  ⟨g.os.trans h.os, g.tape.trans h.tape, g.output.trans h.output, Nat.le_trans h.size g.size, fun k hk hn => (g.block k (Nat.lt_of_lt_of_le hk h.size) (fun e => by
    have := hr k e.symm
    omega)).trans (h.block k hk (by simp))⟩
theorem gr_any {a b : World} (h : Gr a b) (r : Option Nat) : a.grownBy b r := ⟨h.os, h.tape, h.output, h.size, fun k hk _ => h.block k hk (by simp)⟩
theorem gr_drew (w : World) : Gr w w.drew := ⟨rfl, rfl, rfl, Nat.le_refl _, fun _ _ _ => rfl⟩
theorem gr_alloc (w : World) (o : Obj) : Gr w (w.alloc o) := World.grownBy_alloc w o none
theorem Gr.cell {w w' : World} (h : Gr w w') {a : Addr} {v : Value} (hc : w.cell? a = some v) : w'.cell? a = some v := World.grownBy.cell h hc (by simp)
theorem grownBy_trans {a b c : World} {r : Option Nat} (h : a.grownBy b r) (g : b.grownBy c r) : a.grownBy c r :=
  ⟨g.os.trans h.os, g.tape.trans h.tape, g.output.trans h.output, Nat.le_trans h.size g.size, fun k hk hn => (g.block k (Nat.lt_of_lt_of_le hk h.size) hn).trans (h.block k hk hn)⟩

/-! ### A block of the call's own -/
def Box (w : World) (b : Nat) (cs : List Value) (t : TypeId) : Prop := w.heap[b]? = some (.cells cs.toArray t (0, 0))
theorem Box.lt {w : World} {b : Nat} {cs : List Value} {t : TypeId} (h : Box w b cs t) : b < w.heap.size := (Array.getElem?_eq_some_iff.1 h).1
theorem Box.kept {w w' : World} {b : Nat} {cs : List Value} {t : TypeId} {r : Option Nat} (h : Box w b cs t) (g : w.grownBy w' r) (hr : r ≠ some b) : Box w' b cs t := by
  unfold Box
  rw [g.block b h.lt (fun e => hr e.symm)]
  exact h
theorem Box.gr {w w' : World} {b : Nat} {cs : List Value} {t : TypeId} (h : Box w b cs t) (g : Gr w w') : Box w' b cs t := h.kept g (by simp)
theorem Box.cell {w : World} {b : Nat} {cs : List Value} {t : TypeId} (h : Box w b cs t) (j : Nat) : w.cell? ⟨b, j, none⟩ = cs[j]? := by
  simp only [World.cell?]
  rw [show w.heap[b]? = _ from h]
  simp
theorem Box.frozen {w : World} {b : Nat} {cs : List Value} {t : TypeId} (h : Box w b cs t) (j : Nat) : w.frozen? ⟨b, j, none⟩ = false := by
  simp only [World.frozen?]
  rw [show w.heap[b]? = _ from h]
  simp

section
variable {P : Program} {k : Value → World → Prop} {w : World}
theorem do_box {t : TypeId} {v : Value} (h : ∀ b w', Gr w w' → w.heap.size ≤ b → Box w' b v.cells.toList t → k (.pointer (some ⟨b, 0, none⟩)) w') : Do P (sBox t v) k w := by
  have e : (sBox t v).run P w = .ok (.value (.pointer (some ⟨w.heap.size, 0, none⟩))) (w.alloc (.cells v.cells t)) := by
    rfl
  rw [do_value e]
  exact h _ _ (gr_alloc w _) (Nat.le_refl _) (heap_alloc_new w _)
theorem do_alloc {t : TypeId} {i : TypeInfo} {z : Value} (hi : P.info? t = some i) (hz : i.zero = some z) (h : ∀ b w', Gr w w' → w.heap.size ≤ b → Box w' b z.cells.toList t → k (.pointer (some ⟨b, 0, none⟩)) w') : Do P (sAlloc t) k w := by
  have e : (sAlloc t).run P w = .ok (.value (.pointer (some ⟨w.heap.size, 0, none⟩))) (w.alloc (.cells z.cells t)) := by
    have e0 : (zeroValue t).run P w = .ok z w := by simp [zeroValue, run_info hi, hz]
    simp only [sAlloc, Instr.alloc, Sem.run_bind, e0, Result.andThen]
    rfl
  rw [do_value e]
  exact h _ _ (gr_alloc w _) (Nat.le_refl _) (heap_alloc_new w _)

theorem run_storeCells {b : Nat} {t : TypeId} : ∀ (vs : List Value) (i off : Nat) (cs : List Value) (w : World), Box w b cs t → off + i + vs.length ≤ cs.length → (∀ v ∈ vs, v.oneCell' = true) →
    ∃ w', (storeCells (⟨b, off, none⟩ : Addr) vs i).run P w = .ok () w' ∧ w.grownBy w' (some b) ∧ Box w' b (cs.take (off + i) ++ vs ++ cs.drop (off + i + vs.length)) t ∧ w'.heap.size = w.heap.size := by
  intro vs
  induction vs with
  | nil =>
    intro i off cs w hb _ _
    refine ⟨w, by simp [storeCells], gr_any (Gr.refl w) _, ?_, rfl⟩
    simpa using hb
  | cons v vs ih =>
    intro i off cs w hb hl h1
    have hlt : off + i < cs.length := by simp at hl; omega
    have hc : w.cell? ⟨b, off + i, none⟩ = some cs[off + i] := by rw [hb.cell]; simp [hlt]
    have hf := hb.frozen (off + i)
    have hb' : Box (w.setCell ⟨b, off + i, none⟩ v) b (cs.set (off + i) v) t := by
      have hlt' := hb.lt
      unfold Box at hb ⊢
      simp only [World.setCell, Array.getElem?_modify, if_true]
      rw [hb]
      simp
    have hg : w.grownBy (w.setCell ⟨b, off + i, none⟩ v) (some b) := ⟨rfl, rfl, rfl, by simp [World.setCell], fun k hk hn => by
      simp only [World.setCell, Array.getElem?_modify]
      rw [if_neg (by intro e; exact hn (by simp [e]))]⟩
    obtain ⟨w', hr, hg', hb'', hsz⟩ := ih (i + 1) off (cs.set (off + i) v) _ hb' (by simp at hl ⊢; omega) (fun u hu => h1 u (List.mem_cons_of_mem _ hu))
    refine ⟨w', ?_, grownBy_trans hg hg', ?_, by rw [hsz]; simp [World.setCell]⟩
    · have hv := h1 v (List.mem_cons_self ..)
      have hst : (store (⟨b, off + i, none⟩ : Addr) v).run P w = .ok () (w.setCell ⟨b, off + i, none⟩ v) := by
        unfold store
        cases v <;> first | (simp [Value.oneCell'] at hv; done) | simp [Sem.run, hc, hf]
      simp only [storeCells, Sem.run_bind, add_plain]
      rw [hst]
      exact hr
    · have e : cs.take (off + i) ++ v :: vs ++ cs.drop (off + i + (v :: vs).length) = (cs.set (off + i) v).take (off + (i + 1)) ++ vs ++ (cs.set (off + i) v).drop (off + (i + 1) + vs.length) := by
        rw [show off + (i + 1) = off + i + 1 from by omega, List.take_succ_eq_append_getElem (by simpa using hlt), List.drop_set_of_lt (by omega), List.take_set_of_le (Nat.le_refl _)]
        simp only [List.getElem_set_self, List.length_cons, List.append_assoc, List.cons_append, List.nil_append]
        rw [show off + i + 1 + vs.length = off + i + (vs.length + 1) from by omega]
      rw [e]
      exact hb''
/-- A store into a block of the call's own. -/
theorem do_store {t e : TypeId} {v : Value} {b off n : Nat} {cs : List Value} (hs : szOf P t n) (hv : v.cells.size = n) (h1 : ∀ u ∈ v.cells.toList, u.oneCell' = true) (hb : Box w b cs e) (hl : off + n ≤ cs.length)
    (h : ∀ w', w.grownBy w' (some b) → w'.heap.size = w.heap.size → Box w' b (cs.take off ++ v.cells.toList ++ cs.drop (off + n)) e → k undef w') : Do P (sStore t (.pointer (some ⟨b, off, none⟩)) v) k w := by
  obtain ⟨w', hr, hg, hb', hsz⟩ := run_storeCells (P := P) v.cells.toList 0 off cs w hb (by simp [hv]; omega) h1
  have e' : (sStore t (.pointer (some ⟨b, off, none⟩)) v).run P w = .ok .skip w' := by
    simp only [sStore, Instr.storeAt, Instr.sureAddr, storeVar, Sem.run_bind, Sem.run_pure, Result.andThen, run_size hs]
    rw [if_neg (by simp [hv])]
    simp only [hr]
  rw [do_skip e']
  have hvl : v.cells.toList.length = n := by simp [hv]
  simp only [Nat.add_zero, hvl] at hb'
  exact h w' hg hsz hb'
end
end Go.Sh

/- The frame calculus, fourth part: rows of the call's own, what is appended, cut, made. -/
set_option linter.unusedVariables false
set_option linter.unusedSimpArgs false
namespace Go.Sh
open Go

theorem inf_of {P : Program} {e n m : Nat} {z : Value} (h : (P.info? e).map (fun i => (i.zero, i.size, i.bytes)) = some (some z, n, m)) : ∃ i, P.info? e = some i ∧ i.zero = some z ∧ i.size = n ∧ i.bytes = m := by
  cases hi : P.info? e with
  | none => rw [hi] at h; cases h
  | some i =>
    rw [hi] at h
    simp only [Option.map_some, Option.some.injEq, Prod.mk.injEq] at h
    exact ⟨i, rfl, h.1, h.2.1, h.2.2⟩
def blk (X : Option Addr) : Option Nat := X.map (·.block)
/-- A row of n elements of type e (sz cells each) in a block from B on, of nobody else. -/
def Row (w : World) (B : Nat) (e sz : Nat) (X : Option Addr) (n c : Nat) (cells : List Value) : Prop := w.ownsRow B e sz (.slice X n c) n cells
/-- m cells that can be read behind an address. -/
structure Src (w : World) (Y : Option Addr) (cells : List Value) : Prop where
  ptr : cells ≠ [] → Y = some (ad Y)
  cell : ∀ j u, cells[j]? = some u → w.cell? ((ad Y).add j) = some u

theorem own_eq {X : Option Addr} {n c : Nat} : (Value.slice X n c).ownBlock = blk X := by cases X <;> rfl
theorem Row.kept {w w' : World} {B e sz n c : Nat} {X : Option Addr} {cells : List Value} {r : Option Nat} (h : Row w B e sz X n c cells) (g : w.grownBy w' r) (hr : blk X = none ∨ blk X ≠ r) : Row w' B e sz X n c cells :=
  World.ownsRow.kept h g (by rw [own_eq]; exact hr)
theorem Row.gr {w w' : World} {B e sz n c : Nat} {X : Option Addr} {cells : List Value} (h : Row w B e sz X n c cells) (g : Gr w w') : Row w' B e sz X n c cells :=
  h.kept g (by cases hb : blk X <;> simp)
theorem Row.at_ {w : World} {B e sz n c : Nat} {X : Option Addr} {cells : List Value} (h : Row w B e sz X n c cells) : (X = none ∧ n = 0 ∧ c = 0) ∨ ∃ g, X = some ⟨g, 0, none⟩ ∧ B ≤ g ∧ g < w.heap.size := by
  rcases h.2 with ⟨h1, h2⟩ | ⟨g, cap, cur, h1, hb, hg, _⟩
  · simp only [Value.slice.injEq] at h1
    exact .inl ⟨h1.1, h2, h1.2.2⟩
  · simp only [Value.slice.injEq] at h1
    exact .inr ⟨g, h1.1, hb, (Array.getElem?_eq_some_iff.1 hg).1⟩
theorem Row.ge {w : World} {B e sz n c : Nat} {X : Option Addr} {cells : List Value} (h : Row w B e sz X n c cells) {q : Nat} (hq : blk X = some q) : B ≤ q ∧ q < w.heap.size := by
  rcases h.at_ with ⟨rfl, _⟩ | ⟨g, rfl, h1, h2⟩
  · cases hq
  · simp only [blk, Option.map_some, Option.some.injEq] at hq
    exact hq ▸ ⟨h1, h2⟩
theorem Row.len {w : World} {B e sz n c : Nat} {X : Option Addr} {cells : List Value} (h : Row w B e sz X n c cells) : cells.length = n * sz := h.1
theorem Row.cap {w : World} {B e sz n c : Nat} {X : Option Addr} {cells : List Value} (h : Row w B e sz X n c cells) : n ≤ c ∧ c ≤ 9223372036854775807 := by
  rcases h.2 with ⟨h1, h2⟩ | ⟨g, cap, cur, h1, hb, hg, hn, hm, _⟩
  · simp only [Value.slice.injEq] at h1
    omega
  · simp only [Value.slice.injEq] at h1
    obtain ⟨_, _, rfl⟩ := h1
    unfold maxLen at hm
    omega
theorem Row.src {w : World} {B e sz n c : Nat} {X : Option Addr} {cells : List Value} (h : Row w B e sz X n c cells) : Src w X cells := by
  rcases h.at_ with ⟨rfl, rfl, _⟩ | ⟨g, rfl, h1, h2⟩
  · have hl := h.len
    rw [Nat.zero_mul] at hl
    have : cells = [] := List.eq_nil_of_length_eq_zero hl
    subst this
    exact ⟨fun h => absurd rfl h, fun j u hu => by simp at hu⟩
  · exact ⟨fun _ => rfl, World.ownsRow.cells h rfl⟩
theorem Row.ptr {w : World} {B e sz n c : Nat} {X : Option Addr} {cells : List Value} (h : Row w B e sz X n c cells) (hn : 0 < n) : X = some (ad X) := by
  rcases h.at_ with ⟨rfl, rfl, _⟩ | ⟨g, rfl, _⟩
  · omega
  · rfl
theorem Row.nil (w : World) (B e sz : Nat) : Row w B e sz none 0 0 [] := World.ownsRow_nil w B e sz
theorem Row.mono {w : World} {B B' e sz n c : Nat} {X : Option Addr} {cells : List Value} (h : Row w B e sz X n c cells) (hb : B' ≤ B) : Row w B' e sz X n c cells := by
  refine ⟨h.1, ?_⟩
  rcases h.2 with h1 | ⟨g, cap, cur, h1, h2, h3⟩
  · exact .inl h1
  · exact .inr ⟨g, cap, cur, h1, by omega, h3⟩
theorem Row.new {w : World} {B e sz n : Nat} {cs : List Value} (hb : B ≤ w.heap.size) (hn : n ≤ 9223372036854775807) (hl : cs.length = n * sz) : Row (w.alloc (.cells cs.toArray e)) B e sz (some ⟨w.heap.size, 0, none⟩) n n cs := by
  have := World.ownsRow_lit (base := B) (e := e) (size := sz) w cs.toArray n hb (by unfold maxLen; omega) (by simpa using hl)
  simpa [Row] using this

theorem Src.gr {w w' : World} {Y : Option Addr} {cells : List Value} (h : Src w Y cells) (g : Gr w w') : Src w' Y cells := ⟨h.ptr, fun j u hu => g.cell (h.cell j u hu)⟩
theorem Src.nil (w : World) (Y : Option Addr) : Src w Y [] := ⟨fun h => absurd rfl h, fun j u hu => by simp at hu⟩
/-- Where s[l:h] begins. -/
def sub (X : Option Addr) (l c sz : Nat) : Option Addr := if c = l then X else X.map (·.add (l * sz))
theorem Src.sub {w : World} {X : Option Addr} {cells : List Value} (h : Src w X cells) {l c sz : Nat} (hl : l * sz ≤ cells.length) (hc : cells.length ≤ c * sz) (m : Nat) : Src w (sub X l c sz) ((cells.drop (l * sz)).take m) := by
  by_cases he : c = l
  · subst he
    have : cells.drop (c * sz) = [] := List.drop_eq_nil_of_le hc
    rw [this, List.take_nil]
    exact Src.nil _ _
  · unfold Sh.sub
    rw [if_neg he]
    refine ⟨fun hne => ?_, fun j u hu => ?_⟩
    · have : cells ≠ [] := by
        rintro rfl
        simp at hne
      rw [h.ptr this]
      rfl
    · have hu' : cells[l * sz + j]? = some u := by
        rw [List.getElem?_take] at hu
        split at hu
        · rwa [List.getElem?_drop] at hu
        · cases hu
      have hne : cells ≠ [] := by
        rintro rfl
        simp at hu'
      have := h.cell _ _ hu'
      rw [h.ptr hne]
      show w.cell? (((ad X).add (l * sz)).add j) = some u
      rw [add_add]
      exact this

section
variable {P : Program} {S : WS} {k : Value → Prop}
theorem run_underlying' {t : TypeId} {d : TypeDesc} (h : P.underlying t = some d) (w : World) : (underlying t).run P w = .ok d w := run_underlying h w
theorem run_slice {t e sz : Nat} (ht : P.underlying t = some (.slice e)) (hs : szOf P e sz) {X : Option Addr} {n c : Nat} {lo hi : Option Value} {l h : Nat} {w : World}
    (hb : (Instr.sliceBounds true n c lo hi none).run P w = .ok (l, h, c) w) : (Instr.sliceAt t (.slice X n c) lo hi none).run P w = .ok (.slice (sub X l c sz) (h - l) (c - l)) w := by
  unfold Instr.sliceAt
  simp only [Sem.run_bind, run_underlying ht, Result.andThen]
  unfold Instr.slice
  simp only [Sem.run_bind, run_underlying ht, Result.andThen, hb, run_size hs]
  rfl
theorem run_bound {kd : IntKind} {i : Int} {y : Nat} {code : BoundsCode} (h0 : 0 ≤ i) (h1 : i ≤ y) (w : World) : (Instr.sliceBound (.int kd i) y code).run P w = .ok i.toNat w := by
  simp [Instr.sliceBound, asIntOf, h0, h1]
theorem rd_slice_lh {t e sz : Nat} (ht : P.underlying t = some (.slice e)) (hs : szOf P e sz) {X : Option Addr} {n c : Nat} {kd kd' : IntKind} {l h : Int} (h0 : 0 ≤ l) (h1 : l ≤ h) (h2 : h ≤ c) :
    Rd P S (sSlice t (.slice X n c) (some (.int kd l)) (some (.int kd' h)) none) k = k (.slice (sub X l.toNat c sz) (h.toNat - l.toNat) (c - l.toNat)) := rd_eq fun w _ => by
  simp only [sSlice, Sem.run_bind]
  rw [run_slice ht hs (l := l.toNat) (h := h.toNat)]
  · rfl
  · simp only [Instr.sliceBounds, Sem.run_bind, Sem.run_pure, Result.andThen, run_bound (kd := kd') (y := c) (by omega) h2, run_bound (kd := kd) (y := h.toNat) h0 (by omega)]
theorem rd_slice_h {t e sz : Nat} (ht : P.underlying t = some (.slice e)) (hs : szOf P e sz) {X : Option Addr} {n c : Nat} {kd' : IntKind} {h : Int} (h1 : 0 ≤ h) (h2 : h ≤ c) :
    Rd P S (sSlice t (.slice X n c) none (some (.int kd' h)) none) k = k (.slice (sub X 0 c sz) h.toNat c) := rd_eq fun w _ => by
  simp only [sSlice, Sem.run_bind]
  rw [run_slice ht hs (l := 0) (h := h.toNat)]
  · rfl
  · simp only [Instr.sliceBounds, Sem.run_bind, Sem.run_pure, Result.andThen, run_bound (kd := kd') (y := c) (by omega) h2]
theorem rd_slice_l {t e sz : Nat} (ht : P.underlying t = some (.slice e)) (hs : szOf P e sz) {X : Option Addr} {n c : Nat} {kd : IntKind} {l : Int} (h0 : 0 ≤ l) (h1 : l ≤ n) :
    Rd P S (sSlice t (.slice X n c) (some (.int kd l)) none none) k = k (.slice (sub X l.toNat c sz) (n - l.toNat) (c - l.toNat)) := rd_eq fun w _ => by
  simp only [sSlice, Sem.run_bind]
  rw [run_slice ht hs (l := l.toNat) (h := n)]
  · rfl
  · simp only [Instr.sliceBounds, Sem.run_bind, Sem.run_pure, Result.andThen, run_bound (kd := kd) (y := n) h0 h1]
end

section
variable {P : Program} {k : Value → World → Prop} {w : World}
theorem run_append_none {t ty e : TypeId} {sz : Nat} (ht : P.underlying t = some (.slice e)) (hs : szOf P e sz) {X : Option Addr} {n c d : Nat} (hc : n ≤ c) :
    (Builtin.append_ #[t, t] ty #[.slice X n c, .slice none 0 d]).run P w = .ok (.slice X n c) w := by
  obtain ⟨i, hi, hn⟩ := hs
  cases X <;> simp [Builtin.append_, run_underlying ht, sizeOf, typeInfo, hi, Builtin.lenOf, Builtin.firstCells, hc, storeCells]
/-- append to a row of the call's own. -/
theorem do_append {t e u sz by' : Nat} {i : TypeInfo} {z : Value} (ht : P.underlying t = some (.slice e)) (hi : P.info? e = some i) (hz : i.zero = some z) (hsize : i.size = sz) (hby : i.bytes = by') (hzs : z.cells.size = sz) (hsz : 0 < sz)
    {cs : List Bool} {B n c m d : Nat} {X Y : Option Addr} {cells news : List Value} (hO : Row w B e sz X n c cells) (hS : Src w Y news) (hl : news.length = m * sz) (h1 : ∀ v ∈ news, v.oneCell' = true) (hm : (n + m) * by' ≤ 140737488355328) (hmax : n + m ≤ 9223372036854775807) (hB : B ≤ w.heap.size)
    (h : ∀ X' c' w', Row w' B e sz X' (n + m) c' (cells ++ news) → w.grownBy w' (blk X) → k (.slice X' (n + m) c') w') : Do P (sBuiltin .append #[t, t] u cs [.slice X n c, .slice Y m d]) k w := by
  have hrun : ∃ v' w', (Builtin.append_ #[t, t] u #[.slice X n c, .slice Y m d]).run P w = .ok v' w' ∧ w'.ownsRow B e sz v' (n + m) (cells ++ news) ∧ w.grownBy w' (blk X) := by
    cases Y with
    | none =>
      have hn : news = [] := by
        cases news with
        | nil => rfl
        | cons v vs => have := hS.ptr (by simp); cases this
      subst hn
      have hm0 : m = 0 := by
        rcases Nat.mul_eq_zero.1 (show m * sz = 0 from hl.symm) with h | h
        · exact h
        · omega
      subst hm0
      exact ⟨_, _, run_append_none ht ⟨i, hi, hsize⟩ hO.cap.1, by rw [List.append_nil, Nat.add_zero]; exact hO, gr_any (Gr.refl w) _⟩
    | some a =>
      obtain ⟨v', w', h1', h2', h3', _⟩ := run_append_own (P := P) (w := w) B t u e i z sz by' ht hi hz hsize hby hzs hsz _ n cells hO a m d news hl (fun j u hu => hS.cell j u hu) h1 (by unfold maxLen; omega) hm hB
      exact ⟨v', w', h1', h2', by rw [← own_eq]; exact h3'⟩
  obtain ⟨v', w', hr, ho, hg⟩ := hrun
  have e' : (sBuiltin .append #[t, t] u cs [.slice X n c, .slice Y m d]).run P w = .ok (.value v') w' := by
    simp only [sBuiltin, builtin, Sem.run_bind]
    rw [show [Value.slice X n c, Value.slice Y m d].toArray = #[.slice X n c, .slice Y m d] from rfl, hr]
    rfl
  rw [do_value e']
  rcases ho.2 with ⟨rfl, hn⟩ | ⟨g, cap, cur, rfl, rest⟩
  · have := h none 0 w' (by rw [hn] at ho ⊢; exact ho) hg
    rwa [hn] at this
  · exact h _ _ _ ho hg

theorem do_make {t e sz by' : Nat} {i : TypeInfo} {z : Value} (ht : P.underlying t = some (.slice e)) (hi : P.info? e = some i) (hz : i.zero = some z) (hsize : i.size = sz) (hby : i.bytes = by') {kl kc : IntKind} {n : Nat} (hm : by' * n ≤ 281474976710656) (hmax : n ≤ 9223372036854775807)
    (h : ∀ b w', w.heap.size ≤ b → b < w'.heap.size → Gr w w' → (∀ B, B ≤ w.heap.size → Row w' B e sz (some ⟨b, 0, none⟩) n n (madeCells z.cells (n * sz)).toList) → k (.slice (some ⟨b, 0, none⟩) n n) w') : Do P (sMakeSlice t (.int kl n) (.int kc n)) k w := by
  have key := fun B hB => run_make_full (P := P) w B t e i z sz ht hi hz hsize kl kc n (by rw [hby]; exact hm) (by unfold maxLen; omega) hB
  obtain ⟨w', hr, ho, hg⟩ := key w.heap.size (Nat.le_refl _)
  have e' : (sMakeSlice t (.int kl n) (.int kc n)).run P w = .ok (.value (.slice (some ⟨w.heap.size, 0, none⟩) n n)) w' := by
    simp only [sMakeSlice, Sem.run_bind, hr]
    rfl
  rw [do_value e']
  refine h _ _ (Nat.le_refl _) ?_ hg fun B hB => ?_
  · rcases (show Row w' w.heap.size e sz _ n n _ from ho).at_ with ⟨h1, _⟩ | ⟨g, h1, _, h3⟩
    · cases h1
    · simp only [Option.some.injEq, Addr.mk.injEq] at h1
      omega
  · obtain ⟨w'', hr', ho', _⟩ := key B hB
    rw [hr] at hr'
    injection hr' with _ e2
    rw [e2]
    exact ho'

theorem do_build {t e sz n : Nat} {i : TypeInfo} {z : Value} (ht : P.underlying t = some (.slice e)) (hi : P.info? e = some i) (hz : i.zero = some z) (hsize : i.size = sz) {ps : List (Nat × Value)} {cells : List Value} (hn : n * sz ≤ 16777216) (hn' : n ≤ 9223372036854775807)
    (hf : Instr.fill (fun j => some (j * sz, sz)) (madeCells (if n * sz = 0 then #[] else z.cells) (n * sz)) ps = some cells.toArray) (hl : cells.length = n * sz)
    (h : ∀ b w', w.heap.size ≤ b → b < w'.heap.size → Gr w w' → Box w' b cells e → (∀ B, B ≤ w.heap.size → Row w' B e sz (some ⟨b, 0, none⟩) n n cells) → k (.slice (some ⟨b, 0, none⟩) n n) w') : Do P (sBuildSlice t n ps) k w := by
  have e' : (sBuildSlice t n ps).run P w = .ok (.value (.slice (some ⟨w.heap.size, 0, none⟩) n n)) (w.alloc (.cells cells.toArray e)) := by
    simp only [sBuildSlice, Instr.buildSlice, Sem.run_bind, run_underlying ht, Result.andThen, run_size ⟨i, hi, hsize⟩]
    rw [if_neg (by omega)]
    unfold madeCells at hf
    have e0 : (zeroValue e).run P w = .ok z w := by simp [zeroValue, run_info hi, hz]
    by_cases h0 : n * sz = 0
    · rw [if_pos h0] at hf ⊢
      simp only [Sem.run_bind, Sem.run_pure, Result.andThen, hf]
      rfl
    · rw [if_neg h0] at hf ⊢
      simp only [Sem.run_bind, Sem.run_pure, Result.andThen, e0, hf]
      rfl
  rw [do_value e']
  exact h _ _ (Nat.le_refl _) (by simp) (gr_alloc w _) (heap_alloc_new w _) fun B hB => Row.new hB hn' hl
/-- A store of one cell into a row of the call's own. -/
theorem do_store_row {t B e sz n c j : Nat} {X : Option Addr} {cells : List Value} {v : Value} (hs : szOf P t 1) (hv : v.cells.toList = [v]) (h1 : v.oneCell' = true) (hO : Row w B e sz X n c cells) (hj : j < n * sz)
    (h : ∀ w', w.grownBy w' (blk X) → w'.heap.size = w.heap.size → Row w' B e sz X n c (cells.set j v) → k undef w') : Do P (sStore t (.pointer (some ((ad X).add j))) v) k w := by
  rcases hO.at_ with ⟨rfl, rfl, _⟩ | ⟨g, rfl, hb, hg⟩
  · simp at hj
  have hst := World.ownsRow.stored hO j v
  have hcell : w.cell? ⟨g, j, none⟩ = cells[j]? := World.ownsRow.cellAt hO j hj
  have hlen := hO.len
  have hc : w.cell? ⟨g, j, none⟩ = some cells[j] := by rw [hcell]; simp [hlen, hj]
  have hf : w.frozen? ⟨g, j, none⟩ = false := by
    rcases hO.2 with ⟨h', _⟩ | ⟨g', cap', cur, h', _, hg', _⟩
    · simp at h'
    · simp only [Value.slice.injEq, Option.some.injEq, Addr.mk.injEq] at h'
      simp only [World.frozen?]
      rw [h'.1.1, hg']
      simp
  have hstore : (store (⟨g, j, none⟩ : Addr) v).run P w = .ok () (w.setCell ⟨g, j, none⟩ v) := by
    unfold store
    cases v <;> first | (simp [Value.oneCell'] at h1; done) | simp [Sem.run, hc, hf]
  have e' : (sStore t (.pointer (some (⟨g, j, none⟩ : Addr))) v).run P w = .ok .skip (w.setCell ⟨g, j, none⟩ v) := by
    have hvs : v.cells.size = 1 := by rw [← Array.length_toList, hv]; rfl
    simp only [sStore, Instr.storeAt, Instr.sureAddr, storeVar, Sem.run_bind, Sem.run_pure, Result.andThen, run_size hs]
    rw [if_neg (by simp [hvs])]
    simp only [hv, storeCells, Sem.run_bind, add_zero', hstore, Result.andThen]
    rfl
  have ea : (ad (some (⟨g, 0, none⟩ : Addr))).add j = ⟨g, j, none⟩ := by
    show (⟨g, 0, none⟩ : Addr).add j = _
    rw [add_plain, Nat.zero_add]
  rw [ea, do_skip e']
  exact h _ hst.2 (by simp [World.setCell]) hst.1
abbrev Inf (P : Program) (e : TypeId) (z : Value) (sz by' : Nat) : Prop := ∃ i, P.info? e = some i ∧ i.zero = some z ∧ i.size = sz ∧ i.bytes = by'
theorem do_append_of {t e u sz by' : Nat} {z : Value} (ht : P.underlying t = some (.slice e)) (H : Inf P e z sz by') (hzs : z.cells.size = sz) (hsz : 0 < sz)
    {cs : List Bool} {B n c m d : Nat} {X Y : Option Addr} {cells news : List Value} (hO : Row w B e sz X n c cells) (hS : Src w Y news) (hl : news.length = m * sz) (h1 : ∀ v ∈ news, v.oneCell' = true) (hm : (n + m) * by' ≤ 140737488355328) (hmax : n + m ≤ 9223372036854775807) (hB : B ≤ w.heap.size)
    (h : ∀ X' c' w', Row w' B e sz X' (n + m) c' (cells ++ news) → w.grownBy w' (blk X) → k (.slice X' (n + m) c') w') : Do P (sBuiltin .append #[t, t] u cs [.slice X n c, .slice Y m d]) k w := by
  obtain ⟨i, a, b, e', f⟩ := H
  exact do_append ht a b e' f hzs hsz hO hS hl h1 hm hmax hB h
theorem do_make_of {t e sz by' : Nat} {z : Value} (ht : P.underlying t = some (.slice e)) (H : Inf P e z sz by') {kl kc : IntKind} {n : Nat} (hm : by' * n ≤ 281474976710656) (hmax : n ≤ 9223372036854775807)
    (h : ∀ b w', w.heap.size ≤ b → b < w'.heap.size → Gr w w' → (∀ B, B ≤ w.heap.size → Row w' B e sz (some ⟨b, 0, none⟩) n n (madeCells z.cells (n * sz)).toList) → k (.slice (some ⟨b, 0, none⟩) n n) w') : Do P (sMakeSlice t (.int kl n) (.int kc n)) k w := by
  obtain ⟨i, a, b, e', f⟩ := H
  exact do_make ht a b e' f hm hmax h
theorem do_build_of {t e sz by' n : Nat} {z : Value} (ht : P.underlying t = some (.slice e)) (H : Inf P e z sz by') {ps : List (Nat × Value)} {cells : List Value} (hn : n * sz ≤ 16777216) (hn' : n ≤ 9223372036854775807)
    (hf : Instr.fill (fun j => some (j * sz, sz)) (madeCells (if n * sz = 0 then #[] else z.cells) (n * sz)) ps = some cells.toArray) (hl : cells.length = n * sz)
    (h : ∀ b w', w.heap.size ≤ b → b < w'.heap.size → Gr w w' → Box w' b cells e → (∀ B, B ≤ w.heap.size → Row w' B e sz (some ⟨b, 0, none⟩) n n cells) → k (.slice (some ⟨b, 0, none⟩) n n) w') : Do P (sBuildSlice t n ps) k w := by
  obtain ⟨i, a, b, e', f⟩ := H
  exact do_build ht a b e' hn hn' hf hl h
end
end Go.Sh
