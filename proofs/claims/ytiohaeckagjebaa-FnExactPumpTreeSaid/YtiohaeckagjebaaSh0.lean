/- A frame calculus over the model's own rules: functions as continuation-passing terms over plain frames. -/
import Derived.Test.YtiohaeckagjebaaWLast
import Derived.Below
import Derived.KernelRfl
import Derived.Laws.Sem
set_option linter.unusedVariables false
set_option linter.unusedSimpArgs false
namespace Go.Sh
open Go

/-! ### Frames -/
abbrev F := Nat → Value
def F.upd (f : F) (d : Nat) (v : Value) : F := fun t => bif Nat.beq t d then v else f t
def F.put (f : F) : Option Nat → Value → F
  | some d, v => f.upd d v
  | none, _ => f
def F.ev (f : F) : Operand → Value
  | .tmp t => f t
  | .const v => v
  | .global g => .pointer (some ⟨g, 0, none⟩)
  | .func g => .func (.func g) #[] #[]

theorem F.upd_same (f : F) (d : Nat) (v : Value) : f.upd d v d = v := by simp [F.upd]
theorem F.upd_ne (f : F) {d t : Nat} (v : Value) (h : t ≠ d) : f.upd d v t = f t := by
  have : Nat.beq t d = false := by
    cases h' : Nat.beq t d
    · rfl
    · exact absurd (Nat.eq_of_beq_eq_true h') h
  simp [F.upd, this]

structure Fits (n : Nat) (f : F) (a : Act) : Prop where
  size : a.tmps.size = n
  defers : a.defers = []
  eq : ∀ t, a.tmps.getD t undef = f t

theorem Fits.ev {n : Nat} {f : F} {a : Act} (h : Fits n f a) : a.eval = f.ev := by
  funext x
  cases x with
  | tmp t => exact h.eq t
  | _ => rfl

theorem Fits.put {n : Nat} {f : F} {a : Act} (h : Fits n f a) (o : Option Nat) (ho : ∀ d, o = some d → d < n) (v : Value) : Fits n (f.put o v) (a.put o v) := by
  cases o with
  | none => exact h
  | some d =>
    have hd := ho d rfl
    refine ⟨by simp [Act.put, h.size], h.defers, fun t => ?_⟩
    by_cases e : t = d
    · subst e
      have hs : t < a.tmps.size := by rw [h.size]; exact hd
      show (a.tmps.setIfInBounds t v).getD t undef = f.upd t v t
      rw [F.upd_same]
      simp [Array.getD, hs]
    · show (a.tmps.setIfInBounds d v).getD t undef = f.upd d v t
      rw [F.upd_ne _ _ e, ← h.eq t]
      simp only [Array.getD_eq_getD_getElem?]
      rw [Array.getElem?_setIfInBounds_ne (fun x => e x.symm)]

/-! ### What one operation does -/
structure WS where
  S : World → Prop
  w : World
  h : S w
def WS.at (w : World) : WS := ⟨fun w' => w' = w, w, rfl⟩
def WS.any : WS := ⟨fun _ => True, default, trivial⟩

def Rd (P : Program) (S : WS) (s : Sem Next) (k : Value → Prop) : Prop := ∃ v, (∀ w, S.S w → s.run P w = .ok (.value v) w) ∧ k v

theorem rd_eq {P : Program} {S : WS} {s : Sem Next} {k : Value → Prop} {v : Value} (h : ∀ w, S.S w → s.run P w = .ok (.value v) w) : Rd P S s k = k v :=
  propext ⟨fun ⟨v', h', hk⟩ => by
    have e := (h' S.w S.h).symm.trans (h S.w S.h)
    injection e with e1 _
    injection e1 with e2
    exact e2 ▸ hk, fun hk => ⟨v, h, hk⟩⟩

def retK (k : Value → World → Prop) : Ending → World → Prop
  | .returned v, w => k v w
  | _, _ => False

def HasBody (P : Program) (g : FuncId) : Prop := ∃ fn, P.funcs[g]? = some fn ∧ fn.body.isNone = false ∧ (fn.name == "runtime.NumGoroutine") = false

/-- The call of function g. -/
def CallK (P : Program) (g : FuncId) (args : List Value) (k : Value → World → Prop) (w : World) : Prop := HasBody P g ∧ Calls P g args.toArray w (retK k)

theorem CallK.mono {P : Program} {g : FuncId} {args : List Value} {k k' : Value → World → Prop} {w : World} (h : CallK P g args k w) (hk : ∀ v w', k v w' → k' v w') : CallK P g args k' w :=
  ⟨h.1, h.2.mono fun e w' he => by cases e <;> first | exact hk _ _ he | exact he⟩

def Do (P : Program) (s : Sem Next) (k : Value → World → Prop) (w : World) : Prop :=
  match s.run P w with
  | .ok (.value v) w' => k v w'
  | .ok .skip w' => k undef w'
  | .ok (.enter g args) w' => Calls P g args w' (retK k)
  | _ => False

theorem do_value {P : Program} {s : Sem Next} {k : Value → World → Prop} {w w' : World} {v : Value} (h : s.run P w = .ok (.value v) w') : Do P s k w = k v w' := by simp [Do, h]
theorem do_skip {P : Program} {s : Sem Next} {k : Value → World → Prop} {w w' : World} (h : s.run P w = .ok .skip w') : Do P s k w = k undef w' := by simp [Do, h]

/-! ### The operations, by their operands' values -/
def isC : Operand → Bool
  | .const _ => true
  | _ => false
def sPick (c a b : Value) : Sem Next := do pure (.value (if ← asBool c then a else b))
def sBin (op : BinOp) (t : TypeId) (c : Bool) (x y : Value) : Sem Next := do let v ← (do eqGuard op t (if c then .const undef else .tmp 0) (.tmp 0) x y; binOp op t x y); pure (.value v)
def sUn (op : UnOp) (x : Value) : Sem Next := do let v ← Op.unary op x; pure (.value v)
def sLoad (t : TypeId) (a : Value) : Sem Next := do let v ← Instr.loadAt t a; pure (.value v)
def sStore (t : TypeId) (a x : Value) : Sem Next := do Instr.storeAt t a x; pure .skip
def sIndexAddr (t : TypeId) (x i : Value) : Sem Next := do let v ← Instr.indexAt t x i; pure (.value v)
def sIndex (t : TypeId) (x i : Value) : Sem Next := do let v ← Instr.index t x i; pure (.value v)
def sSlice (t : TypeId) (x : Value) (lo hi mx : Option Value) : Sem Next := do let v ← Instr.sliceAt t x lo hi mx; pure (.value v)
def sField (t : TypeId) (x : Value) (i : Nat) : Sem Next := do let v ← Instr.field t x i; pure (.value v)
def sFieldAddr (t : TypeId) (x : Value) (i : Nat) : Sem Next := do let v ← Instr.fieldAt t x i; pure (.value v)
def sExtract (x : Value) (i : Nat) : Sem Next := do let v ← Instr.extract x i; pure (.value v)
def sNilCheck (x : Value) : Sem Next := execOp (fun _ => x) { dst := none, op := .nilCheck (.tmp 0), type := 0, pos := "", after := #[], guard := none }
def sConvert (s d : TypeId) (x : Value) : Sem Next := do let v ← convert s d x; pure (.value v)
def sBuild (t : TypeId) (ps : List (Nat × Value)) : Sem Next := do let v ← Instr.build t ps.toArray; pure (.value v)
def sAlloc (t : TypeId) : Sem Next := do let v ← Instr.alloc t true (.tuple #[]); pure (.value v)
def sBox (t : TypeId) (x : Value) : Sem Next := do let v ← Instr.box t x; pure (.value v)
def sBuildSlice (t : TypeId) (n : Nat) (ps : List (Nat × Value)) : Sem Next := do let v ← Instr.buildSlice t n ps.toArray; pure (.value v)
def sMakeSlice (t : TypeId) (l c : Value) : Sem Next := do let v ← Instr.makeSlice t l c; pure (.value v)
def sMakeIface (t : TypeId) (x : Value) : Sem Next := do let v ← Instr.makeInterface t x; pure (.value v)
def sMakeFunc (fn : Fn) (a b : List Value) : Sem Next := do let v ← Instr.makeFunc fn a.toArray b.toArray; pure (.value v)
def sBuiltin (b : Builtin) (ts : Array TypeId) (t : TypeId) (cs : List Bool) (xs : List Value) : Sem Next := builtin b ts t cs.toArray xs.toArray
def sCallV (x : Value) (args : List Value) (t : TypeId) : Sem Next := do let d ← Deferred.ofValue x args.toArray; invoke d.target d.args

def quietB : Builtin → Bool
  | .len | .cap | .min | .max => true
  | _ => false

def quietOp : Op → Bool
  | .move _ | .assign _ | .pick .. | .binOp .. | .unOp .. | .load .. | .indexAddr .. | .index .. | .slice .. | .field .. | .fieldAddr .. | .extract .. | .nilCheck _ | .build .. | .makeInterface .. | .makeFunc .. => true
  | .call { callee := .builtin b, .. } => quietB b
  | _ => false

/-- One operation: what reads is read in every world of S; what acts acts at w. -/
def opK (P : Program) (S : WS) (f : F) (o : Oper) (k : Value → World → Prop) (w : World) : Prop :=
  match o.op with
  | .move x => k (f.ev x) w
  | .assign x => k (f.ev x) w
  | .pick c a b => Rd P S (sPick (f.ev c) (f.ev a) (f.ev b)) fun v => k v w
  | .binOp op t x y _ => Rd P S (sBin op t (isC x || isC y) (f.ev x) (f.ev y)) fun v => k v w
  | .unOp op _ x => Rd P S (sUn op (f.ev x)) fun v => k v w
  | .load t a => Rd P S (sLoad t (f.ev a)) fun v => k v w
  | .indexAddr t x i => Rd P S (sIndexAddr t (f.ev x) (f.ev i)) fun v => k v w
  | .index t x i => Rd P S (sIndex t (f.ev x) (f.ev i)) fun v => k v w
  | .slice t x lo hi mx => Rd P S (sSlice t (f.ev x) (lo.map f.ev) (hi.map f.ev) (mx.map f.ev)) fun v => k v w
  | .field t x i => Rd P S (sField t (f.ev x) i) fun v => k v w
  | .fieldAddr t x i => Rd P S (sFieldAddr t (f.ev x) i) fun v => k v w
  | .extract x i => Rd P S (sExtract (f.ev x) i) fun v => k v w
  | .nilCheck x => Rd P S (sNilCheck (f.ev x)) fun v => k v w
  | .build t ps => Rd P S (sBuild t (ps.toList.map fun p => (p.1, f.ev p.2))) fun v => k v w
  | .makeInterface t x => Rd P S (sMakeIface t (f.ev x)) fun v => k v w
  | .makeFunc fn a b => Rd P S (sMakeFunc fn (a.toList.map f.ev) (b.toList.map f.ev)) fun v => k v w
  | .store t a x => Do P (sStore t (f.ev a) (f.ev x)) k w
  | .alloc t => Do P (sAlloc t) k w
  | .box t x => Do P (sBox t (f.ev x)) k w
  | .buildSlice t n ps => Do P (sBuildSlice t n (ps.toList.map fun p => (p.1, f.ev p.2))) k w
  | .makeSlice t l c => Do P (sMakeSlice t (f.ev l) (f.ev c)) k w
  | .convert s d x => Do P (sConvert s d (f.ev x)) k w
  | .call { callee := .builtin b, args, argTypes } =>
    bif quietB b then Rd P S (sBuiltin b argTypes o.type (args.toList.map isC) (args.toList.map f.ev)) fun v => k v w
    else Do P (sBuiltin b argTypes o.type (args.toList.map isC) (args.toList.map f.ev)) k w
  | .call { callee := .value (.func g), args, argTypes := _ } => CallK P g (args.toList.map f.ev) k w
  | .call { callee := .value x, args, argTypes := _ } => Do P (sCallV (f.ev x) (args.toList.map f.ev) o.type) k w
  | _ => Do P (execOp f.ev o) k w

theorem toArray_map {α β : Type} (g : α → β) (l : Array α) : (l.toList.map g).toArray = l.map g := by rw [← Array.toList_map]

theorem eqGuard_const {op : BinOp} {t : TypeId} {x y : Operand} {a b : Value} : eqGuard op t (if isC x || isC y then .const undef else .tmp 0) (.tmp 0) a b = eqGuard op t x y a b := by
  unfold eqGuard
  cases x <;> cases y <;> rfl

theorem opK_yields {P : Program} {S : WS} {f : F} {o : Oper} {k : Value → World → Prop} {w : World} (hq : quietOp o.op = true) (h : opK P S f o k w) :
    ∃ v, (∀ w', S.S w' → (execOp f.ev o).run P w' = .ok (.value v) w') ∧ k v w := by
  obtain ⟨dst, op, ty, pos, after, guard⟩ := o
  cases op <;> simp only [quietOp, Bool.false_eq_true] at hq
  case move x => exact ⟨_, fun _ _ => rfl, h⟩
  case assign x => exact ⟨_, fun _ _ => rfl, h⟩
  case binOp op t x y u =>
    obtain ⟨v, hv, hk⟩ := h
    refine ⟨v, fun w' hw => ?_, hk⟩
    rw [← hv w' hw]
    simp only [sBin, eqGuard_const]
    rfl
  case nilCheck x =>
    obtain ⟨v, hv, hk⟩ := h
    exact ⟨v, fun w' hw => (by rw [← hv w' hw]; rfl), hk⟩
  case build t ps =>
    obtain ⟨v, hv, hk⟩ := h
    refine ⟨v, fun w' hw => ?_, hk⟩
    rw [← hv w' hw]
    simp only [sBuild, toArray_map]
    rfl
  case makeFunc fn p q =>
    obtain ⟨v, hv, hk⟩ := h
    refine ⟨v, fun w' hw => ?_, hk⟩
    rw [← hv w' hw]
    simp only [sMakeFunc, toArray_map]
    rfl
  case call c =>
    obtain ⟨callee, args, ts⟩ := c
    cases callee <;> simp only [Bool.false_eq_true] at hq
    case builtin b =>
      simp only [opK, hq, cond_true] at h
      obtain ⟨v, hv, hk⟩ := h
      refine ⟨v, fun w' hw => ?_, hk⟩
      rw [← hv w' hw]
      simp only [sBuiltin, toArray_map]
      rfl
  all_goals exact h

theorem callee_enter {P : Program} {g : FuncId} (hb : HasBody P g) {f : F} {dst : Option Tmp} {args : Array Operand} {ts : Array TypeId} {ty : TypeId} {pos : String} {after : Array Edge} {gd : Option (Nat × Bool)} (w : World) :
    (execOp f.ev { dst, op := .call { callee := .value (.func g), args, argTypes := ts }, type := ty, pos, after, guard := gd }).run P w = .ok (.enter g (args.toList.map f.ev).toArray) w := by
  obtain ⟨fn, hf, hbody, hname⟩ := hb
  rw [toArray_map]
  have h1 : ¬ fn.name = "runtime.NumGoroutine" := by simpa using hname
  have h2 : ¬ fn.body = none := by
    intro e
    rw [e] at hbody
    cases hbody
  simp [execOp, resolve, Deferred.ofValue, F.ev, invoke, callFunc, program, hf, h1, h2, Sem.run]

end Go.Sh
