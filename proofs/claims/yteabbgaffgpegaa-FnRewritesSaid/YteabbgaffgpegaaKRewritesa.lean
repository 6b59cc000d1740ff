/- Texts of this repository put together: Sh0, Sh1, ShA, Sh2, Sh3, ShT, Ba, ShC0, ShC4, ShG0, ShG1, Bb, ShG2, ShG3, ShG4, ShA2, ShH0, Bc, ShH7, ShK, ShC1, ShC2, ShG5. -/
import Derived.Test.YteabbgaffgpegaaWLast
import Derived.Below
import Derived.KernelRfl
import Derived.Laws.Sem
import Derived.Test.YteabbgaffgpegaaProg
import Derived.Laws.AppendOwn
import Derived.Laws.OwnMore
import Derived.Laws.MakeOwn
import Derived.Laws.NewBlocks
import Derived.Laws.Entries
import Derived.ChangeKeysEq
import Derived.IntWalk
import Derived.ArgAppend

set_option linter.unusedVariables false
set_option linter.unusedSimpArgs false
namespace Go.Sh
open Go

abbrev F := Nat → Value
def F.upd (f : F) (d : Nat) (v : Value) : F := fun t => bif Nat.beq t d then v else f t
def F.put (f : F) : Option Nat → Value → F
  | some d, v => f.upd d v
  | none, _ => f
def F.ev (f : F) : Operand → Value
  | .tmp t => f t
  | .const v => v
  | .global g => .pointer (some ⟨g, 0, none⟩)
  | .func g => .func (.func g) #[] #[]

theorem F.upd_same (f : F) (d : Nat) (v : Value) : f.upd d v d = v := by simp [F.upd]
theorem F.upd_ne (f : F) {d t : Nat} (v : Value) (h : t ≠ d) : f.upd d v t = f t := by
  have : Nat.beq t d = false := by
    cases h' : Nat.beq t d
    · rfl
    · exact absurd (Nat.eq_of_beq_eq_true h') h
  simp [F.upd, this]

structure Fits (n : Nat) (f : F) (a : Act) : Prop where
  size : a.tmps.size = n
  defers : a.defers = []
  eq : ∀ t, a.tmps.getD t undef = f t

theorem Fits.ev {n : Nat} {f : F} {a : Act} (h : Fits n f a) : a.eval = f.ev := by
  funext x
  cases x with
  | tmp t => exact h.eq t
  | _ => rfl

theorem Fits.put {n : Nat} {f : F} {a : Act} (h : Fits n f a) (o : Option Nat) (ho : ∀ d, o = some d → d < n) (v : Value) : Fits n (f.put o v) (a.put o v) := by
  cases o with
  | none => exact h
  | some d =>
    have hd := ho d rfl
    refine ⟨by simp [Act.put, h.size], h.defers, fun t => ?_⟩
    by_cases e : t = d
    · subst e
      have hs : t < a.tmps.size := by rw [h.size]; exact hd
      show (a.tmps.setIfInBounds t v).getD t undef = f.upd t v t
      rw [F.upd_same]
      simp [Array.getD, hs]
    · show (a.tmps.setIfInBounds d v).getD t undef = f.upd d v t
      rw [F.upd_ne _ _ e, ← h.eq t]
      simp only [Array.getD_eq_getD_getElem?]
      rw [Array.getElem?_setIfInBounds_ne (fun x => e x.symm)]

structure WS where
  S : World → Prop
  w : World
  h : S w
def WS.at (w : World) : WS := ⟨fun w' => w' = w, w, rfl⟩
def WS.any : WS := ⟨fun _ => True, default, trivial⟩

def Rd (P : Program) (S : WS) (s : Sem Next) (k : Value → Prop) : Prop := ∃ v, (∀ w, S.S w → s.run P w = .ok (.value v) w) ∧ k v

theorem ztb_ {P : Program} {S : WS} {s : Sem Next} {k : Value → Prop} {v : Value} (h : ∀ w, S.S w → s.run P w = .ok (.value v) w) : Rd P S s k = k v :=
  propext ⟨fun ⟨v', h', hk⟩ => by
    have e := (h' S.w S.h).symm.trans (h S.w S.h)
    injection e with e1 _
    injection e1 with e2
    exact e2 ▸ hk, fun hk => ⟨v, h, hk⟩⟩

def retK (k : Value → World → Prop) : Ending → World → Prop
  | .returned v, w => k v w
  | _, _ => False

def zth_ (P : Program) (g : FuncId) : Prop := ∃ fn, P.funcs[g]? = some fn ∧ fn.body.isNone = false ∧ (fn.name == "runtime.NumGoroutine") = false

def CallK (P : Program) (g : FuncId) (args : List Value) (k : Value → World → Prop) (w : World) : Prop :=
  (zth_ P g ∧ Calls P g args.toArray w (retK k)) ∨ ∃ v w', (callFunc g args.toArray).run P w = .ok (.value v) w' ∧ k v w'

theorem CallK.mono {P : Program} {g : FuncId} {args : List Value} {k k' : Value → World → Prop} {w : World} (h : CallK P g args k w) (hk : ∀ v w', k v w' → k' v w') : CallK P g args k' w := by
  rcases h with h | ⟨v, w', h1, h2⟩
  · exact .inl ⟨h.1, h.2.mono fun e w' he => by cases e <;> first | exact hk _ _ he | exact he⟩
  · exact .inr ⟨v, w', h1, hk _ _ h2⟩
theorem CallK.calls {P : Program} {g : FuncId} {args : List Value} {k : Value → World → Prop} {w : World} (h : CallK P g args k w) (hb : zth_ P g) : Calls P g args.toArray w (retK k) := by
  rcases h with h | ⟨v, w', h1, h2⟩
  · exact h.2
  · obtain ⟨fn, hf, hbody, hname⟩ := hb
    have n1 : ¬ fn.name = "runtime.NumGoroutine" := by simpa using hname
    have n2 : ¬ fn.body = none := by
      intro e
      rw [e] at hbody
      cases hbody
    simp [callFunc, program, hf, n1, n2, Sem.run] at h1

def Do (P : Program) (s : Sem Next) (k : Value → World → Prop) (w : World) : Prop :=
  match s.run P w with
  | .ok (.value v) w' => k v w'
  | .ok .skip w' => k undef w'
  | .ok (.enter g args) w' => Calls P g args w' (retK k)
  | _ => False

theorem zuc_ {P : Program} {s : Sem Next} {k : Value → World → Prop} {w w' : World} {v : Value} (h : s.run P w = .ok (.value v) w') : Do P s k w = k v w' := by simp [Do, h]
theorem do_skip {P : Program} {s : Sem Next} {k : Value → World → Prop} {w w' : World} (h : s.run P w = .ok .skip w') : Do P s k w = k undef w' := by simp [Do, h]

def isC : Operand → Bool
  | .const _ => true
  | _ => false
def zcb_ (c a b : Value) : Sem Next := do pure (.value (if ← asBool c then a else b))
def sBin (op : BinOp) (t : TypeId) (c : Bool) (x y : Value) : Sem Next := do let v ← (do eqGuard op t (if c then .const undef else .tmp 0) (.tmp 0) x y; binOp op t x y); pure (.value v)
def sUn (op : UnOp) (x : Value) : Sem Next := do let v ← Op.unary op x; pure (.value v)
def zd_ (t : TypeId) (a : Value) : Sem Next := do let v ← Instr.loadAt t a; pure (.value v)
def zab_ (t : TypeId) (a x : Value) : Sem Next := do Instr.storeAt t a x; pure .skip
def zf_ (t : TypeId) (x i : Value) : Sem Next := do let v ← Instr.indexAt t x i; pure (.value v)
def sIndex (t : TypeId) (x i : Value) : Sem Next := do let v ← Instr.index t x i; pure (.value v)
def zbb_ (t : TypeId) (x : Value) (lo hi mx : Option Value) : Sem Next := do let v ← Instr.sliceAt t x lo hi mx; pure (.value v)
def sField (t : TypeId) (x : Value) (i : Nat) : Sem Next := do let v ← Instr.field t x i; pure (.value v)
def za_ (t : TypeId) (x : Value) (i : Nat) : Sem Next := do let v ← Instr.fieldAt t x i; pure (.value v)
def zu_ (x : Value) (i : Nat) : Sem Next := do let v ← Instr.extract x i; pure (.value v)
def zeb_ (x : Value) : Sem Next := execOp (fun _ => x) { dst := none, op := .nilCheck (.tmp 0), type := 0, pos := "", after := #[], guard := none }
def zme_ (s d : TypeId) (x : Value) : Sem Next := do let v ← convert s d x; pure (.value v)
def zw_ (t : TypeId) (ps : List (Nat × Value)) : Sem Next := do let v ← Instr.build t ps.toArray; pure (.value v)
def zkb_ (t : TypeId) : Sem Next := do let v ← Instr.alloc t true (.tuple #[]); pure (.value v)
def sBox (t : TypeId) (x : Value) : Sem Next := do let v ← Instr.box t x; pure (.value v)
def zh_ (t : TypeId) (n : Nat) (ps : List (Nat × Value)) : Sem Next := do let v ← Instr.buildSlice t n ps.toArray; pure (.value v)
def sMakeSlice (t : TypeId) (l c : Value) : Sem Next := do let v ← Instr.makeSlice t l c; pure (.value v)
def sMakeMap (t : TypeId) : Sem Next := do let v ← Instr.makeMap t none; pure (.value v)
def sLookup (t : TypeId) (x i : Value) (ok : Bool) : Sem Next := do let v ← Instr.lookup t x i ok; pure (.value v)
def sMapUpdate (t : TypeId) (m a b : Value) : Sem Next := do Instr.mapUpdate t m a b; pure .skip
def sMakeIface (t : TypeId) (x : Value) : Sem Next := do let v ← Instr.makeInterface t x; pure (.value v)
def zyd_ (fn : Fn) (a b : List Value) : Sem Next := do let v ← Instr.makeFunc fn a.toArray b.toArray; pure (.value v)
def zc_ (b : Builtin) (ts : Array TypeId) (t : TypeId) (cs : List Bool) (xs : List Value) : Sem Next := builtin b ts t cs.toArray xs.toArray
def zbd_ (x : Value) (args : List Value) (t : TypeId) : Sem Next := do let d ← Deferred.ofValue x args.toArray; invoke d.target d.args

def quietB : Builtin → Bool
  | .len | .cap | .min | .max => true
  | _ => false

def zbf_ : Op → Bool
  | .move _ | .assign _ | .pick .. | .binOp .. | .unOp .. | .load .. | .indexAddr .. | .index .. | .slice .. | .field .. | .fieldAddr .. | .extract .. | .nilCheck _ | .build .. | .makeInterface .. | .makeFunc .. => true
  | .call { callee := .builtin b, .. } => quietB b
  | _ => false

def opK (P : Program) (S : WS) (f : F) (o : Oper) (k : Value → World → Prop) (w : World) : Prop :=
  match o.op with
  | .move x => k (f.ev x) w
  | .assign x => k (f.ev x) w
  | .pick c a b => Rd P S (zcb_ (f.ev c) (f.ev a) (f.ev b)) fun v => k v w
  | .binOp op t x y _ => Rd P S (sBin op t (isC x || isC y) (f.ev x) (f.ev y)) fun v => k v w
  | .unOp op _ x => Rd P S (sUn op (f.ev x)) fun v => k v w
  | .load t a => Rd P S (zd_ t (f.ev a)) fun v => k v w
  | .indexAddr t x i => Rd P S (zf_ t (f.ev x) (f.ev i)) fun v => k v w
  | .index t x i => Rd P S (sIndex t (f.ev x) (f.ev i)) fun v => k v w
  | .slice t x lo hi mx => Rd P S (zbb_ t (f.ev x) (lo.map f.ev) (hi.map f.ev) (mx.map f.ev)) fun v => k v w
  | .field t x i => Rd P S (sField t (f.ev x) i) fun v => k v w
  | .fieldAddr t x i => Rd P S (za_ t (f.ev x) i) fun v => k v w
  | .extract x i => Rd P S (zu_ (f.ev x) i) fun v => k v w
  | .nilCheck x => Rd P S (zeb_ (f.ev x)) fun v => k v w
  | .build t ps => Rd P S (zw_ t (ps.toList.map fun p => (p.1, f.ev p.2))) fun v => k v w
  | .makeInterface t x => Rd P S (sMakeIface t (f.ev x)) fun v => k v w
  | .makeFunc fn a b => Rd P S (zyd_ fn (a.toList.map f.ev) (b.toList.map f.ev)) fun v => k v w
  | .store t a x => Do P (zab_ t (f.ev a) (f.ev x)) k w
  | .alloc t => Do P (zkb_ t) k w
  | .box t x => Do P (sBox t (f.ev x)) k w
  | .buildSlice t n ps => Do P (zh_ t n (ps.toList.map fun p => (p.1, f.ev p.2))) k w
  | .makeSlice t l c => Do P (sMakeSlice t (f.ev l) (f.ev c)) k w
  | .makeMap t none => Do P (sMakeMap t) k w
  | .lookup t x i ok => Do P (sLookup t (f.ev x) (f.ev i) ok) k w
  | .mapUpdate t m a b => Do P (sMapUpdate t (f.ev m) (f.ev a) (f.ev b)) k w
  | .convert s d x => Do P (zme_ s d (f.ev x)) k w
  | .call { callee := .builtin b, args, argTypes } =>
    bif quietB b then Rd P S (zc_ b argTypes o.type (args.toList.map isC) (args.toList.map f.ev)) fun v => k v w
    else Do P (zc_ b argTypes o.type (args.toList.map isC) (args.toList.map f.ev)) k w
  | .call { callee := .value (.func g), args, argTypes := _ } => CallK P g (args.toList.map f.ev) k w
  | .call { callee := .value x, args, argTypes := _ } => Do P (zbd_ (f.ev x) (args.toList.map f.ev) o.type) k w
  | _ => Do P (execOp f.ev o) k w

theorem zxc_ {α β : Type} (g : α → β) (l : Array α) : (l.toList.map g).toArray = l.map g := by rw [← Array.toList_map]

theorem zfm_ {op : BinOp} {t : TypeId} {x y : Operand} {a b : Value} : eqGuard op t (if isC x || isC y then .const undef else .tmp 0) (.tmp 0) a b = eqGuard op t x y a b := by
  unfold eqGuard
  cases x <;> cases y <;> rfl

theorem ztg_ {P : Program} {S : WS} {f : F} {o : Oper} {k : Value → World → Prop} {w : World} (hq : zbf_ o.op = true) (h : opK P S f o k w) :
    ∃ v, (∀ w', S.S w' → (execOp f.ev o).run P w' = .ok (.value v) w') ∧ k v w := by
  obtain ⟨dst, op, ty, pos, after, guard⟩ := o
  cases op <;> simp only [zbf_, Bool.false_eq_true] at hq
  case move x => exact ⟨_, fun _ _ => rfl, h⟩
  case assign x => exact ⟨_, fun _ _ => rfl, h⟩
  case binOp op t x y u =>
    obtain ⟨v, hv, hk⟩ := h
    refine ⟨v, fun w' hw => ?_, hk⟩
    rw [← hv w' hw]
    simp only [sBin, zfm_]
    rfl
  case nilCheck x =>
    obtain ⟨v, hv, hk⟩ := h
    exact ⟨v, fun w' hw => (by rw [← hv w' hw]; rfl), hk⟩
  case build t ps =>
    obtain ⟨v, hv, hk⟩ := h
    refine ⟨v, fun w' hw => ?_, hk⟩
    rw [← hv w' hw]
    simp only [zw_, zxc_]
    rfl
  case makeFunc fn p q =>
    obtain ⟨v, hv, hk⟩ := h
    refine ⟨v, fun w' hw => ?_, hk⟩
    rw [← hv w' hw]
    simp only [zyd_, zxc_]
    rfl
  case call c =>
    obtain ⟨callee, args, ts⟩ := c
    cases callee <;> simp only [Bool.false_eq_true] at hq
    case builtin b =>
      simp only [opK, hq, cond_true] at h
      obtain ⟨v, hv, hk⟩ := h
      refine ⟨v, fun w' hw => ?_, hk⟩
      rw [← hv w' hw]
      simp only [zc_, zxc_]
      rfl
  all_goals exact h

theorem zrm_ {P : Program} {g : FuncId} (hb : zth_ P g) {f : F} {dst : Option Tmp} {args : Array Operand} {ts : Array TypeId} {ty : TypeId} {pos : String} {after : Array Edge} {gd : Option (Nat × Bool)} (w : World) :
    (execOp f.ev { dst, op := .call { callee := .value (.func g), args, argTypes := ts }, type := ty, pos, after, guard := gd }).run P w = .ok (.enter g (args.toList.map f.ev).toArray) w := by
  obtain ⟨fn, hf, hbody, hname⟩ := hb
  rw [zxc_]
  have h1 : ¬ fn.name = "runtime.NumGoroutine" := by simpa using hname
  have h2 : ¬ fn.body = none := by
    intro e
    rw [e] at hbody
    cases hbody
  simp [execOp, resolve, Deferred.ofValue, F.ev, invoke, callFunc, program, hf, h1, h2, Sem.run]

theorem callee_runs {P : Program} {g : FuncId} {f : F} {dst : Option Tmp} {args : Array Operand} {ts : Array TypeId} {ty : TypeId} {pos : String} {after : Array Edge} {gd : Option (Nat × Bool)} (w : World) :
    (execOp f.ev { dst, op := .call { callee := .value (.func g), args, argTypes := ts }, type := ty, pos, after, guard := gd }).run P w = (callFunc g (args.toList.map f.ev).toArray).run P w := by
  rw [zxc_]
  simp [execOp, resolve, Deferred.ofValue, F.ev, invoke]

open Go Go.Proofs.YteabbgaffgpegaaW.PrintLast

theorem ztf_ {P : Program} {f : F} {o : Oper} {k : Value → World → Prop} {w : World} {a : Act} {next : Act → World → Prop} {Q : Exit → Act → World → Prop}
    (h : Do P (execOp f.ev o) k w) (hn : ∀ v w', k v w' → next (a.put o.dst v) w') : o.upon P a next Q ((execOp f.ev o).run P w) := by
  unfold Do at h
  generalize (execOp f.ev o).run P w = r at *
  cases r with
  | halt x w' => exact h.elim
  | ok x w' =>
    cases x <;> first | exact hn _ _ h | exact h.elim | skip
    exact Calls.mono h fun e w'' he => by cases e <;> first | exact hn _ _ he | exact he.elim

theorem opK_wp {P : Program} {S : WS} {f : F} {o : Oper} {k : Value → World → Prop} {w : World} {a : Act} {next : Act → World → Prop} {Q : Exit → Act → World → Prop}
    (hS : zbf_ o.op = true → S.S w) (hf : a.eval = f.ev) (h : opK P S f o k w) (hn : ∀ v w', k v w' → next (a.put o.dst v) w') : o.wp P a w next Q := by
  unfold Oper.wp
  rw [hf]
  by_cases hq : zbf_ o.op = true
  · obtain ⟨v, hv, hk⟩ := ztg_ hq h
    rw [hv w (hS hq)]
    exact hn _ _ hk
  · obtain ⟨dst, op, ty, pos, after, guard⟩ := o
    cases op
    case call c =>
      obtain ⟨callee, args, ts⟩ := c
      cases callee
      case builtin b =>
        have hb : quietB b = false := by
          cases e : quietB b
          · rfl
          · exact absurd e hq
        simp only [opK, hb, cond_false, zc_, zxc_] at h
        exact ztf_ h hn
      case value x =>
        cases x
        case func g =>
          rcases h with ⟨hb, hc⟩ | ⟨v, w1, h1, h2⟩
          · rw [zrm_ hb]
            exact Calls.mono hc fun e w'' he => by cases e <;> first | exact hn _ _ he | exact he.elim
          · rw [callee_runs, h1]
            exact hn _ _ h2
        all_goals
          simp only [opK, zbd_, zxc_] at h
          refine ztf_ (o := { dst, op := .call { callee := .value _, args, argTypes := ts }, type := ty, pos, after, guard }) (f := f) ?_ hn
          simp only [execOp, resolve]
          exact h
      case invoke r m => exact ztf_ h hn
    case buildSlice t m ps =>
      simp only [opK, zh_, zxc_] at h
      exact ztf_ h hn
    case makeMap t r => cases r <;> exact ztf_ h hn
    all_goals first | exact absurd rfl hq | exact ztf_ h hn

def zb_ (g : Value) (want : Bool) (run : (Value → World → Prop) → World → Prop) (k : Value → World → Prop) (w : World) : Prop :=
  match g with
  | .bool b => bif b == want then run k w else k undef w
  | _ => k undef w
def gval (ops : List Oper) (f : F) (j : Nat) : Value :=
  match ops[j]? with
  | some o => match o.dst with
    | some d => f d
    | none => undef
  | none => undef
def stepK (P : Program) (S : WS) (ops : List Oper) (f : F) (o : Oper) (k : Value → World → Prop) (w : World) : Prop :=
  match o.guard with
  | none => opK P S f o k w
  | some (j, want) => zb_ (gval ops f j) want (fun k w => opK P S f o k w) k w

theorem wanted_none {ops : Array Oper} {o : Oper} {t : Array Value} (h : o.guard = none) : Region.wanted o (yielded ops t) = true := by simp [Region.wanted, h]
theorem ztm_ {ops : Array Oper} {n : Nat} {f : F} {a : Act} (hf : Fits n f a) (j : Nat) : yielded ops a.tmps j = match gval ops.toList f j with | .bool b => some b | _ => none := by
  unfold yielded gval
  rw [Array.getElem?_toList]
  cases h : ops[j]? with
  | none => rfl
  | some o =>
    simp only [Option.bind_some]
    cases hd : o.dst with
    | none => rfl
    | some d =>
      simp only [Option.bind_some]
      rw [← hf.eq d, Array.getD_eq_getD_getElem?]
      cases a.tmps[d]? with
      | none => rfl
      | some v => cases v <;> rfl

theorem zwd_ {P : Program} {S : WS} {ops : Array Oper} {n : Nat} {f : F} {a : Act} {o : Oper} {k : Value → World → Prop} {w : World} (hf : Fits n f a) (h : stepK P S ops.toList f o k w) :
    (Region.wanted o (yielded ops a.tmps) = true ∧ opK P S f o k w) ∨ (Region.wanted o (yielded ops a.tmps) = false ∧ k undef w) := by
  unfold stepK at h
  split at h
  · rename_i hg
    exact .inl ⟨wanted_none hg, h⟩
  · rename_i j want hg
    unfold zb_ at h
    have hw : Region.wanted o (yielded ops a.tmps) = (yielded ops a.tmps j == some want) := by simp [Region.wanted, hg]
    rw [hw, ztm_ hf]
    split at h
    · rename_i b hb
      cases hbw : b == want
      · rw [hbw] at h
        exact .inr ⟨by simpa using hbw, h⟩
      · rw [hbw] at h
        exact .inl ⟨by simpa using hbw, h⟩
    · rename_i hb
      exact .inr ⟨rfl, h⟩

def Agree (W : List Nat) (f0 f : F) : Prop := ∀ s, s ∉ W → f s = f0 s
theorem Agree.refl (W : List Nat) (f : F) : Agree W f f := fun _ _ => rfl
theorem Agree.trans {W : List Nat} {f g h : F} (a : Agree W f g) (b : Agree W g h) : Agree W f h := fun s hs => (b s hs).trans (a s hs)
theorem Agree.put {W : List Nat} {f0 f : F} (h : Agree W f0 f) (o : Option Nat) (ho : ∀ d, o = some d → d ∈ W) (v : Value) : Agree W f0 (f.put o v) := by
  cases o with
  | none => exact h
  | some d =>
    intro s hs
    have : s ≠ d := fun e => hs (e ▸ ho d rfl)
    exact (F.upd_ne f v this).trans (h s hs)
theorem Agree.sub {W W' : List Nat} {f g : F} (h : Agree W f g) (hs : ∀ s, s ∈ W → s ∈ W') : Agree W' f g := fun s hn => h s (fun hm => hn (hs s hm))

def dsts (ops : List Oper) : List Nat := ops.filterMap (·.dst)

def opsK (P : Program) (ops : List Oper) : List Oper → F → (F → World → Prop) → World → Prop
  | [], f, k, w => k f w
  | o :: r, f, k, w => stepK P (WS.at w) ops f o (fun v w' => opsK P ops r (f.put o.dst v) k w') w

theorem opsK_sound {P : Program} {ops : Array Oper} {n : Nat} {W : List Nat} {k : F → World → Prop} {Q : Exit → Act → World → Prop} {f0 : F}
    (hQ : ∀ f a w, Fits n f a → Agree W f0 f → k f w → Q .normal a w) (hW : ∀ d ∈ W, d < n) :
    ∀ (suf pre : List Oper) (f : F) (a : Act) (w : World), ops.toList = pre ++ suf → (∀ d ∈ dsts suf, d ∈ W) → Fits n f a → Agree W f0 f → opsK P ops.toList suf f k w → wpOps P ops Q (List.range' pre.length suf.length) a w := by
  intro suf
  induction suf with
  | nil => intro pre f a w _ _ hf ha h; exact hQ f a w hf ha h
  | cons o r ih =>
    intro pre f a w he hd hf ha h
    have ho : ops[pre.length]? = some o := by
      rw [← Array.getElem?_toList, he]
      simp
    have hod : ∀ d, o.dst = some d → d ∈ W := fun d e => hd d (by simp [dsts, List.filterMap_cons, e])
    have hrd : ∀ d ∈ dsts r, d ∈ W := fun d hm => hd d (by
      unfold dsts at hm ⊢
      rw [List.filterMap_cons]
      split
      · exact hm
      · exact List.mem_cons_of_mem _ hm)
    have next : ∀ v w', opsK P ops.toList r (f.put o.dst v) k w' → wpOps P ops Q (List.range' (pre.length + 1) r.length) (a.put o.dst v) w' := fun v w' h' => by
      have := ih (pre ++ [o]) (f.put o.dst v) (a.put o.dst v) w' (by rw [he]; simp) hrd (hf.put _ (fun d e => hW d (hod d e)) v) (ha.put _ hod v) h'
      simpa using this
    rw [List.length_cons, List.range'_succ, wpOps_cons]
    unfold wpOp
    simp only [ho]
    rcases zwd_ hf h with ⟨hw, h1⟩ | ⟨hw, h1⟩
    · rw [if_pos hw]
      exact .inl (opK_wp (S := WS.at w) (fun _ => rfl) hf.ev h1 next)
    · rw [if_neg (by simp [hw])]
      exact next _ _ h1

inductive Kd where
  | any | held | one | last
  deriving DecidableEq
inductive Steps where
  | nil
  | step (i : Nat) (kd : Kd) (r : Steps)
  | fork (i : Nat) (a : Steps) (j : Nat) (b : Steps)
structure Plan where
  gen : Bool
  ds : List Nat
  steps : Steps

def zee_ (ops : Array Oper) (i : Nat) : Bool := ((ops[i]?).map fun o => zbf_ o.op).getD false
def zj_ (ops : Array Oper) (ds : List Nat) : Steps → Nat → Array Bool → Bool → Bool
  | .nil, n, l, _ => (n == 0) && (Region.ready .any ops l == [])
  | .step _ _ _, 0, _, _ => false
  | .step i .any r, n + 1, l, s => zee_ ops i && anyB .any ops l (l.setIfInBounds i true) i && zj_ ops ds r n (l.setIfInBounds i true) s
  | .step i .held r, n + 1, l, s => s && zee_ ops i && takeB .any ops ds l (l.setIfInBounds i true) i && zj_ ops ds r n (l.setIfInBounds i true) s
  | .step i .one r, n + 1, l, s => s && !ds.contains i && (Region.ready .any ops l == [i]) && zj_ ops ds r n (l.setIfInBounds i true) s
  | .step i .last r, n + 1, l, s => !zee_ ops i && ds.contains i && (Region.ready .any ops l == [i]) && zj_ ops ds r n (l.setIfInBounds i true) false
  | .fork _ _ _ _, 0, _, _ => false
  | .fork i a j b, n + 1, l, s => s && !ds.contains i && !ds.contains j && (Region.ready .any ops l == [i, j]) && zj_ ops ds a n (l.setIfInBounds i true) s && zj_ ops ds b n (l.setIfInBounds j true) s
def planOK (ops : Array Oper) (p : Plan) : Bool := zj_ ops p.ds p.steps ops.size (Array.replicate ops.size false) true

def zrc_ (P : Program) (ops : List Oper) (S : WS) : Steps → F → (F → World → Prop) → World → Prop
  | .nil, f, k, w => k f w
  | .step i kd r, f, k, w =>
    match ops[i]? with
    | none => False
    | some o =>
      match kd with
      | .any => stepK P WS.any ops f o (fun v w' => zrc_ P ops S r (f.put o.dst v) k w') w
      | .held => stepK P S ops f o (fun v w' => zrc_ P ops S r (f.put o.dst v) k w') w
      | .one => stepK P S ops f o (fun v w' => S.S w' ∧ zrc_ P ops S r (f.put o.dst v) k w') w
      | .last => stepK P S ops f o (fun v w' => zrc_ P ops S r (f.put o.dst v) k w') w
  | .fork i a j b, f, k, w =>
    match ops[i]?, ops[j]? with
    | some o, some u => stepK P S ops f o (fun v w' => S.S w' ∧ zrc_ P ops S a (f.put o.dst v) k w') w ∧ stepK P S ops f u (fun v w' => S.S w' ∧ zrc_ P ops S b (f.put u.dst v) k w') w
    | _, _ => False
def drawK (P : Program) (ops : List Oper) (p : Plan) (f : F) (k : F → World → Prop) (w : World) : Prop :=
  bif p.gen then ∃ S : World → Prop, ∃ h : S w, zrc_ P ops ⟨S, w, h⟩ p.steps f k w
  else zrc_ P ops (WS.at w) p.steps f k w

theorem zeh_ {P : Program} {ops : Array Oper} {n : Nat} {W : List Nat} {k : F → World → Prop} {Q : Exit → Act → World → Prop} {f0 : F} {S : WS} {ds : List Nat}
    (hQ : ∀ f a w, Fits n f a → Agree W f0 f → k f w → Q .normal a w) (hP : ∀ c a w, ¬ Q (.panic c) a w) (hW : ∀ d ∈ W, d < n) (hD : ∀ d ∈ dsts ops.toList, d ∈ W) :
    ∀ (steps : Steps) (m : Nat) (l : Array Bool) (s : Bool) (f : F) (a : Act) (w : World), zj_ ops ds steps m l s = true → (s = true → S.S w) → Fits n f a → Agree W f0 f →
      zrc_ P ops.toList S steps f k w → wpAnyLast P .any ops Q S.S ds m l a w := by
  have hdst : ∀ {i : Nat} {o : Oper}, ops[i]? = some o → ∀ d, o.dst = some d → d ∈ W := fun {i o} ho d e => hD d (List.mem_filterMap.2 ⟨o, by
    rw [← Array.getElem?_toList] at ho
    exact List.mem_of_getElem? ho, e⟩)
  have hone : ∀ {i m : Nat} {o : Oper} {r : Steps} {l : Array Bool} {s : Bool} {f : F} {a : Act} {w : World}, ops[i]? = some o → s = true → (s = true → S.S w) → Fits n f a → Agree W f0 f → zj_ ops ds r m (l.setIfInBounds i true) s = true →
      stepK P S ops.toList f o (fun v w' => S.S w' ∧ zrc_ P ops.toList S r (f.put o.dst v) k w') w →
      (∀ (l : Array Bool) (s : Bool) (f : F) (a : Act) (w : World), zj_ ops ds r m l s = true → (s = true → S.S w) → Fits n f a → Agree W f0 f → zrc_ P ops.toList S r f k w → wpAnyLast P .any ops Q S.S ds m l a w) →
      wpOp P ops Q i (fun a' w' => (i ∉ ds → S.S w → S.S w') ∧ wpAnyLast P .any ops Q S.S ds m (l.setIfInBounds i true) a' w') a w := by
    intro i m o r l s f a w ho hs1 hs hf ha hok h ih
    unfold wpOp
    simp only [ho]
    have go : ∀ v w', S.S w' → zrc_ P ops.toList S r (f.put o.dst v) k w' → wpAnyLast P .any ops Q S.S ds m (l.setIfInBounds i true) (a.put o.dst v) w' :=
      fun v w' h2 h3 => ih _ s _ _ _ hok (fun _ => h2) (hf.put _ (fun d e => hW d (hdst ho d e)) v) (ha.put _ (hdst ho) v) h3
    rcases zwd_ hf h with ⟨hw, h'⟩ | ⟨hw, h'⟩
    · rw [if_pos hw]
      exact .inl (opK_wp (fun _ => hs hs1) hf.ev h' fun v w' hk => ⟨fun _ _ => hk.1, go v w' hk.1 hk.2⟩)
    · rw [if_neg (by simp [hw])]
      exact ⟨fun _ _ => h'.1, go undef w h'.1 h'.2⟩
  intro steps
  induction steps with
  | nil =>
    intro m l s f a w hok _ hf ha h
    simp only [zj_, Bool.and_eq_true, beq_iff_eq] at hok
    obtain ⟨rfl, hok⟩ := hok
    exact ⟨hok, hQ f a w hf ha h⟩
  | fork i x j y ihx ihy =>
    intro m l s f a w hok hs hf ha h
    cases m with
    | zero => simp [zj_] at hok
    | succ m =>
    simp only [zj_, Bool.and_eq_true] at hok
    obtain ⟨⟨⟨⟨⟨h0, h1⟩, h2⟩, h3⟩, h4⟩, h5⟩ := hok
    have h3' : Region.ready .any ops l = [i, j] := by simpa using h3
    unfold zrc_ at h
    split at h
    · rename_i o u ho hu
      rw [Array.getElem?_toList] at ho hu
      refine wpAnyLast_all h3' (by simp) fun e he => ?_
      have : e = i ∨ e = j := by simpa using he
      rcases this with rfl | rfl
      · exact hone ho h0 hs hf ha h4 h.1 fun l s f a w => ihx m l s f a w
      · exact hone hu h0 hs hf ha h5 h.2 fun l s f a w => ihy m l s f a w
    · exact h.elim
  | step i kd r ih =>
    intro m l s f a w hok hs hf ha h
    cases m with
    | zero => simp [zj_] at hok
    | succ m =>
    unfold zrc_ at h
    split at h
    · exact h.elim
    · rename_i o ho
      rw [Array.getElem?_toList] at ho
      have hod : ∀ d, o.dst = some d → d ∈ W := hdst ho
      have hq : zee_ ops i = true → zbf_ o.op = true := fun h => by simpa [zee_, ho] using h
      have go : ∀ v w' s', zj_ ops ds r m (l.setIfInBounds i true) s' = true → (s' = true → S.S w') → zrc_ P ops.toList S r (f.put o.dst v) k w' → wpAnyLast P .any ops Q S.S ds m (l.setIfInBounds i true) (a.put o.dst v) w' :=
        fun v w' s' h1 h2 h3 => ih _ _ s' _ _ _ h1 h2 (hf.put _ (fun d e => hW d (hod d e)) v) (ha.put _ hod v) h3
      cases kd with
      | any =>
        simp only [zj_, Bool.and_eq_true] at hok
        obtain ⟨⟨h1, h2⟩, h3⟩ := hok
        simp only at h
        have hy : ∃ v, Yields P ops o v a ∧ zrc_ P ops.toList S r (f.put o.dst v) k w := by
          rcases zwd_ hf h with ⟨hw, h'⟩ | ⟨hw, h'⟩
          · obtain ⟨v, hv, hk⟩ := ztg_ (hq h1) h'
            exact ⟨v, .inl ⟨hw, fun w' => by rw [hf.ev]; exact hv w' trivial⟩, hk⟩
          · exact ⟨undef, .inr ⟨hw, rfl⟩, h'⟩
        obtain ⟨v, hy, hk⟩ := hy
        exact pure_ _ ho rfl h2 (fun c a w hq => absurd hq (hP c _ w)) hy rfl (go v w s h3 hs hk)
      | held =>
        simp only [zj_, Bool.and_eq_true] at hok
        obtain ⟨⟨⟨h0, h1⟩, h2⟩, h3⟩ := hok
        simp only at h
        have hy : ∃ v, YieldsIf P ops S.S o v a ∧ zrc_ P ops.toList S r (f.put o.dst v) k w := by
          rcases zwd_ hf h with ⟨hw, h'⟩ | ⟨hw, h'⟩
          · obtain ⟨v, hv, hk⟩ := ztg_ (hq h1) h'
            exact ⟨v, .inl ⟨hw, fun w' hw' => by rw [hf.ev]; exact hv w' hw'⟩, hk⟩
          · exact ⟨undef, .inr ⟨hw, rfl⟩, h'⟩
        obtain ⟨v, hy, hk⟩ := hy
        exact take_ _ ho rfl h2 (fun c a w hq => absurd hq (hP c _ w)) hy (hs h0) rfl (go v w s h3 hs hk)
      | one =>
        simp only [zj_, Bool.and_eq_true] at hok
        obtain ⟨⟨⟨h0, h1⟩, h2⟩, h3⟩ := hok
        simp only at h
        have h2' : Region.ready .any ops l = [i] := by simpa using h2
        refine wpAnyLast_all h2' (by simp) fun j hj => ?_
        have hji : j = i := by simpa using hj
        subst hji
        unfold wpOp
        simp only [ho]
        rcases zwd_ hf h with ⟨hw, h'⟩ | ⟨hw, h'⟩
        · rw [if_pos hw]
          exact .inl (opK_wp (fun _ => hs h0) hf.ev h' fun v w' hk => ⟨fun _ _ => hk.1, go v w' s h3 (fun _ => hk.1) hk.2⟩)
        · rw [if_neg (by simp [hw])]
          exact ⟨fun _ _ => h'.1, go undef w s h3 (fun _ => h'.1) h'.2⟩
      | last =>
        simp only [zj_, Bool.and_eq_true] at hok
        obtain ⟨⟨⟨h0, h1⟩, h2⟩, h3⟩ := hok
        simp only at h
        have hnq : zbf_ o.op = true → S.S w := fun e => by simp [zee_, ho, e] at h0
        have h2' : Region.ready .any ops l = [i] := by simpa using h2
        have hid : i ∈ ds := by simpa using h1
        refine wpAnyLast_all h2' (by simp) fun j hj => ?_
        have hji : j = i := by simpa using hj
        subst hji
        unfold wpOp
        simp only [ho]
        rcases zwd_ hf h with ⟨hw, h'⟩ | ⟨hw, h'⟩
        · rw [if_pos hw]
          refine .inl (opK_wp hnq hf.ev h' fun v w' hk => ⟨fun hn => absurd hid hn, go v w' false h3 (fun h => by cases h) hk⟩)
        · rw [if_neg (by simp [hw])]
          exact ⟨fun hn => absurd hid hn, go undef w false h3 (fun h => by cases h) h'⟩

theorem plan_sound {P : Program} {ops : Array Oper} {n : Nat} {W : List Nat} {k : F → World → Prop} {Q : Exit → Act → World → Prop} {id : Nat} {p : Plan} {f : F} {a : Act} {w : World} (hm : P.follows .mixedOrders = true)
    (hQ : ∀ f' a w, Fits n f' a → Agree W f f' → k f' w → Q .normal a w) (hP : ∀ c a w, ¬ Q (.panic c) a w) (hW : ∀ d ∈ W, d < n) (hD : ∀ d ∈ dsts ops.toList, d ∈ W)
    (hok : planOK ops p = true) (hf : Fits n f a) (h : drawK P ops.toList p f k w.drew) : (Code.region id ops true).wp P Q a w := by
  unfold planOK at hok
  unfold drawK at h
  cases hg : p.gen <;> rw [hg] at h
  · refine wp_region_last (S := (WS.at w.drew).S) (ds := p.ds) hm ?_
    exact zeh_ (S := WS.at w.drew) hQ hP hW hD p.steps _ _ true f a _ hok (fun _ => rfl) hf (Agree.refl _ _) h
  · obtain ⟨S, hS, h⟩ := h
    refine wp_region_last (S := S) (ds := p.ds) hm ?_
    exact zeh_ (S := ⟨S, w.drew, hS⟩) hQ hP hW hD p.steps _ _ true f a _ hok (fun _ => hS) hf (Agree.refl _ _) h

def seqQ (next : F → World → Prop) (Q : Exit → F → World → Prop) : Exit → F → World → Prop
  | .normal, f, w => next f w
  | e, f, w => Q e f w
def zgb_ (id : Nat) (Q : Exit → F → World → Prop) : Exit → F → World → Prop
  | .exit i, f, w => bif Nat.beq i id then Q .normal f w else Q (.exit i) f w
  | e, f, w => Q e f w
def zm_ (c : Value) (x y : Prop) : Prop :=
  match c with
  | .bool b => bif b then x else y
  | _ => False
def zrb_ (W : List Nat) (body : (Exit → F → World → Prop) → F → World → Prop) (Q : Exit → F → World → Prop) (f0 : F) (w0 : World) : Prop :=
  ∃ (I : F → World → Prop) (μ : F → World → Nat), I f0 w0 ∧ ∀ f w, Agree W f0 f → I f w → body (seqQ (fun f' w' => I f' w' ∧ μ f' w' < μ f w) Q) f w

def Plans := Nat → Plan

def wr : Code → List Nat
  | .region _ ops _ => dsts ops.toList
  | .seq a b => wr a ++ wr b
  | .cond _ a b => wr a ++ wr b
  | .block _ b => wr b
  | .loop b => wr b
  | _ => []

def wpF (P : Program) (pl : Plans) : Code → (Exit → F → World → Prop) → F → World → Prop
  | .skip, Q, f, w => Q .normal f w
  | .region _ ops false, Q, f, w => opsK P ops.toList ops.toList f (fun f w => Q .normal f w) w
  | .region id ops true, Q, f, w => drawK P ops.toList (pl id) f (fun f w => Q .normal f w) w.drew
  | .seq a b, Q, f, w => wpF P pl a (seqQ (wpF P pl b Q) Q) f w
  | .cond c a b, Q, f, w => zm_ (f.ev c) (wpF P pl a Q f w) (wpF P pl b Q f w)
  | .block id b, Q, f, w => wpF P pl b (zgb_ id Q) f w
  | .loop b, Q, f, w => zrb_ (wr b) (wpF P pl b) Q f w
  | .exit id, Q, f, w => Q (.exit id) f w
  | .ret, Q, f, w => Q .ret f w
  | _, _, _, _ => False

def zbc_ (pl : Plans) : Code → Bool
  | .region id ops true => planOK ops (pl id)
  | .seq a b => zbc_ pl a && zbc_ pl b
  | .cond _ a b => zbc_ pl a && zbc_ pl b
  | .block _ b => zbc_ pl b
  | .loop b => zbc_ pl b
  | _ => true

def NoPanic (Q : Exit → F → World → Prop) : Prop := ∀ c f w, ¬ Q (.panic c) f w

theorem wpF_sound {P : Program} {pl : Plans} (hm : P.follows .mixedOrders = true) {n : Nat} : ∀ (c : Code), (∀ d ∈ wr c, d < n) → zbc_ pl c = true → ∀ (Q : Exit → F → World → Prop), NoPanic Q → ∀ (f : F) (w : World) (a : Act),
    wpF P pl c Q f w → Fits n f a → c.wp P (fun e a' w' => ∃ f', Fits n f' a' ∧ Q e f' w' ∧ Agree (wr c) f f') a w := by
  intro c
  induction c with
  | skip => intro _ _ Q _ f w a h hf; exact wp_skip ⟨f, hf, h, Agree.refl _ _⟩
  | exit id => intro _ _ Q _ f w a h hf; exact wp_exit ⟨f, hf, h, Agree.refl _ _⟩
  | ret => intro _ _ Q _ f w a h hf; exact wp_ret ⟨f, hf, h, Agree.refl _ _⟩
  | region id ops draw =>
    intro hW hok Q hQ f w a h hf
    cases draw with
    | false =>
      refine wp_region ?_
      have := opsK_sound (W := wr (.region id ops false)) (f0 := f) (Q := fun e a' w' => ∃ f', Fits n f' a' ∧ Q e f' w' ∧ Agree (wr (.region id ops false)) f f') (k := fun f w => Q .normal f w)
        (fun f' a w h1 h2 h3 => ⟨f', h1, h3, h2⟩) hW ops.toList [] f a w rfl (fun d hd => hd) hf (Agree.refl _ _) h
      simpa [List.range_eq_range'] using this
    | true =>
      exact plan_sound (W := wr (.region id ops true)) (Q := fun e a' w' => ∃ f', Fits n f' a' ∧ Q e f' w' ∧ Agree (wr (.region id ops true)) f f') hm
        (fun f' a w h1 h2 h3 => ⟨f', h1, h3, h2⟩) (fun c a w ⟨f', _, h, _⟩ => hQ _ _ _ h) hW (fun d hd => hd) hok hf h
  | seq x y ihx ihy =>
    intro hW hok Q hQ f w a h hf
    simp only [zbc_, Bool.and_eq_true] at hok
    have hx := ihx (fun d hd => hW d (List.mem_append_left _ hd)) hok.1 (seqQ (wpF P pl y Q) Q) (fun c f w h => hQ c f w h) f w a h hf
    refine wp_seq (wp_mono hx fun e a' w' ⟨f', hf', hq, hag⟩ => ?_)
    cases e with
    | normal =>
      exact wp_mono (ihy (fun d hd => hW d (List.mem_append_right _ hd)) hok.2 Q hQ f' w' a' hq hf') fun e a'' w'' ⟨f'', h1, h2, h3⟩ =>
        ⟨f'', h1, h2, (hag.sub (fun s hs => List.mem_append_left _ hs)).trans (h3.sub fun s hs => List.mem_append_right _ hs)⟩
    | _ => exact ⟨f', hf', hq, hag.sub fun s hs => List.mem_append_left _ hs⟩
  | cond c x y ihx ihy =>
    intro hW hok Q hQ f w a h hf
    simp only [zbc_, Bool.and_eq_true] at hok
    simp only [wpF, zm_] at h
    split at h
    · rename_i b hb
      have hc : a.eval c = .bool b := by rw [hf.ev]; exact hb
      refine wp_cond hc ?_
      cases b
      · exact wp_mono (ihy (fun d hd => hW d (List.mem_append_right _ hd)) hok.2 Q hQ f w a h hf) fun e a' w' ⟨f', h1, h2, h3⟩ => ⟨f', h1, h2, h3.sub fun s hs => List.mem_append_right _ hs⟩
      · exact wp_mono (ihx (fun d hd => hW d (List.mem_append_left _ hd)) hok.1 Q hQ f w a h hf) fun e a' w' ⟨f', h1, h2, h3⟩ => ⟨f', h1, h2, h3.sub fun s hs => List.mem_append_left _ hs⟩
    · exact h.elim
  | block id b ih =>
    intro hW hok Q hQ f w a h hf
    refine wp_block (wp_mono (ih hW hok (zgb_ id Q) (fun c f w h => hQ c f w h) f w a h hf) fun e a' w' ⟨f', h1, h2, h3⟩ => ?_)
    cases e with
    | exit i =>
      show if i = id then _ else _
      simp only [zgb_] at h2
      by_cases hi : i = id
      · subst hi
        rw [if_pos rfl]
        rw [show Nat.beq i i = true from Nat.beq_refl i] at h2
        exact ⟨f', h1, h2, h3⟩
      · rw [if_neg hi]
        have hb : Nat.beq i id = false := by
          cases h' : Nat.beq i id
          · rfl
          · exact absurd (Nat.eq_of_beq_eq_true h') hi
        rw [hb] at h2
        exact ⟨f', h1, h2, h3⟩
    | _ => exact ⟨f', h1, h2, h3⟩
  | loop b ih =>
    intro hW hok Q hQ f w a h hf
    obtain ⟨I, μ, h0, hr⟩ := h
    have hex : ∃ μ' : Act → World → Nat, ∀ f' a' w', Fits n f' a' → μ' a' w' = μ f' w' := ⟨fun a' w' => μ (fun t => a'.tmps.getD t undef) w', fun f' a' w' hf' => by
      have : (fun t => a'.tmps.getD t undef) = f' := funext hf'.eq
      show μ (fun t => a'.tmps.getD t undef) w' = μ f' w'
      rw [this]⟩
    obtain ⟨μ', hμ⟩ := hex
    refine wp_loop (fun a' w' => ∃ f', Fits n f' a' ∧ Agree (wr b) f f' ∧ I f' w') μ' ⟨f, hf, Agree.refl _ _, h0⟩ ?_
    rintro a1 w1 ⟨f1, hf1, hag1, hI1⟩
    refine wp_mono (ih hW hok (seqQ (fun f' w' => I f' w' ∧ μ f' w' < μ f1 w1) Q) (fun c f w h => hQ c f w h) f1 w1 a1 (hr f1 w1 hag1 hI1) hf1) fun e a' w' ⟨f', h1, h2, h3⟩ => ?_
    cases e with
    | normal => exact ⟨⟨f', h1, hag1.trans h3, h2.1⟩, by rw [hμ f' a' w' h1, hμ f1 a1 w1 hf1]; exact h2.2⟩
    | _ => exact ⟨f', h1, h2, hag1.trans h3⟩
  | _ => intro _ _ Q _ f w a h hf; exact h.elim

def zwb_ (t : TypeId) (a : Value) : Sem Next := (do loadVar t (← asAddr a)) >>= fun v => pure (.value v)
theorem value_bind {P : Program} {s : Sem Value} {w w' : World} {v : Value} (h : (s >>= fun v => (pure (.value v) : Sem Next)).run P w = .ok (.value v) w') : s.run P w = .ok v w' := by
  rw [Sem.run_bind] at h
  cases e : s.run P w with
  | ok v' w1 =>
    rw [e] at h
    simp at h
    rw [h.1, h.2]
  | halt x w1 =>
    rw [e] at h
    simp at h
def resK (P : Program) : List ResultVar → F → List Value → (List Value → World → Prop) → World → Prop
  | [], _, acc, k, w => k acc w
  | .tmp t :: r, f, acc, k, w => resK P r f (acc ++ [f t]) k w
  | .cell a t :: r, f, acc, k, w => Rd P (WS.at w) (zwb_ t (f a)) fun v => resK P r f (acc ++ [v]) k w
def oneOf (k : Value → World → Prop) : List Value → World → Prop
  | [v], w => k v w
  | vs, w => k (.tuple vs.toArray) w
def zv_ (P : Program) (rs : List ResultVar) (k : Value → World → Prop) : Exit → F → World → Prop
  | .normal, f, w => resK P rs f [] (oneOf k) w
  | .ret, f, w => resK P rs f [] (oneOf k) w
  | _, _, _ => False
def zr_ (args : List Value) : F := fun t => args.getD t undef

theorem resK_run {P : Program} {f : F} {w : World} {k : List Value → World → Prop} : ∀ (rs : List ResultVar) (acc : List Value), resK P rs f acc k w →
    ∃ vs, (rs.mapM (m := Sem) fun r => match r with | .tmp t => pure (f t) | .cell c t => do loadVar t (← asAddr (f c))).run P w = .ok vs w ∧ k (acc ++ vs) w := by
  intro rs
  induction rs with
  | nil => intro acc h; exact ⟨[], rfl, by rw [List.append_nil]; exact h⟩
  | cons r rs ih =>
    intro acc h
    cases r with
    | tmp t =>
      obtain ⟨vs, hv, hk⟩ := ih _ h
      refine ⟨f t :: vs, ?_, by simpa using hk⟩
      rw [List.mapM_cons]
      simp [hv]
    | cell c t =>
      obtain ⟨v, hv, h'⟩ := h
      obtain ⟨vs, hvs, hk⟩ := ih _ h'
      refine ⟨v :: vs, ?_, by simpa using hk⟩
      have hl := value_bind (hv w rfl)
      rw [List.mapM_cons, Sem.run_bind]
      simp only [hl]
      simp [hvs]

theorem zk_ {P : Program} {pl : Plans} {g : FuncId} {fn : Func} {c : Code} {args : List Value} {w : World} {k : Value → World → Prop} (hm : P.follows .mixedOrders = true)
    (hg : P.funcs[g]? = some fn) (hb : fn.body = some c) (hn : (fn.name == "runtime.NumGoroutine") = false) (hl : args.length ≤ fn.ntmps) (hw : (wr c).all (fun d => Nat.blt d fn.ntmps) = true) (hp : zbc_ pl c = true)
    (h : wpF P pl c (zv_ P fn.results.toList k) (zr_ args) w) : CallK P g args k w := by
  refine .inl ⟨⟨fn, hg, by simp [hb], hn⟩, calls_of_wp hg hb ?_⟩
  have hfit : Fits fn.ntmps (zr_ args) { tmps := args.toArray ++ Array.replicate (fn.ntmps - args.toArray.size) undef, defers := [] } := by
    refine ⟨by simp; omega, rfl, fun t => ?_⟩
    simp only [zr_, Array.getD_eq_getD_getElem?, List.getD_eq_getElem?_getD]
    rw [Array.getElem?_append]
    split
    · simp
    · rename_i hlt
      simp only [List.size_toArray] at hlt
      rw [List.getElem?_eq_none (by omega), Array.getElem?_replicate]
      split <;> rfl
  refine wp_mono (wpF_sound hm c (fun d hd => by simpa using List.all_eq_true.1 hw d hd) hp _ (fun _ _ _ h => h) _ w _ h hfit) fun e a' w' ⟨f', h1, h2, _⟩ => ?_
  have key : resK P fn.results.toList f' [] (oneOf k) w' → bodyPost P fn (retK k) .ret a' w' := fun hr => by
    obtain ⟨vs, hv, hk⟩ := resK_run _ _ hr
    refine ⟨h1.defers, if h : vs.length = 1 then vs[0] else .tuple vs.toArray, ?_, ?_⟩
    · unfold results
      rw [Array.mapM_eq_mapM_toList]
      simp only [h1.eq, Sem.run_bind, Sem.run_map]
      erw [hv]
      simp
    · simp only [List.nil_append] at hk
      show k _ w'
      match vs, hk with
      | [], hk => exact hk
      | [v], hk => exact hk
      | _ :: _ :: _, hk => exact hk
  cases e with
  | normal => exact key h2
  | ret => exact key h2
  | _ => exact h2.elim

def zi_ (fn : Func) : Code := fn.body.getD .skip
def Join (b : (F → World → Prop) → Prop) (n : F → World → Prop) : Prop := b n
end Go.Sh
namespace Go.Proofs.Yteabbgaffgpegaa
open Go Go.Sh
theorem zdb_ : Try.prog.follows .mixedOrders = true := by kernel_rfl
end Go.Proofs.Yteabbgaffgpegaa

namespace Go.Sh
open Go

def szOf (P : Program) (e : TypeId) (n : Nat) : Prop := ∃ i, P.info? e = some i ∧ i.size = n
def one (P : Program) (t : TypeId) : Prop := ∃ d, P.underlying t = some d ∧ (match d with | .struct _ => False | .array _ _ => False | _ => True)
def agg (P : Program) (t : TypeId) : Prop := ∃ d, P.underlying t = some d ∧ (match d with | .struct _ => True | .array _ _ => True | _ => False)
def fld (P : Program) (t : TypeId) (i off : Nat) : Prop := ∃ fs f n, P.underlying t = some (.struct fs) ∧ fs[i]? = some f ∧ f.offset = off ∧ szOf P f.type n ∧ n ≠ 0
theorem ztc_ {P : Program} {e : TypeId} {n : Nat} (h : (P.info? e).map (·.size) = some n) : szOf P e n := by
  cases hi : P.info? e with
  | none => rw [hi] at h; cases h
  | some i => rw [hi] at h; exact ⟨i, hi, by simpa using h⟩
def oneB (P : Program) (t : TypeId) : Bool := match P.underlying t with | some (.struct _) => false | some (.array _ _) => false | some _ => true | none => false
def aggB (P : Program) (t : TypeId) : Bool := match P.underlying t with | some (.struct _) => true | some (.array _ _) => true | _ => false
theorem zwe_ {P : Program} {t : TypeId} (h : oneB P t = true) : one P t := by
  unfold oneB at h
  cases hu : P.underlying t with
  | none => rw [hu] at h; cases h
  | some d => rw [hu] at h; exact ⟨d, hu, by cases d <;> first | trivial | (cases h)⟩
theorem agg_of {P : Program} {t : TypeId} (h : aggB P t = true) : agg P t := by
  unfold aggB at h
  cases hu : P.underlying t with
  | none => rw [hu] at h; cases h
  | some d => rw [hu] at h; exact ⟨d, hu, by cases d <;> first | trivial | (cases h)⟩
def fldB (P : Program) (t : TypeId) (i off : Nat) : Bool := match P.underlying t with
  | some (.struct fs) => match fs[i]? with
    | some f => f.offset == off && (match P.info? f.type with | some n => n.size != 0 | none => false)
    | none => false
  | _ => false
theorem zx_ {P : Program} {t : TypeId} {i off : Nat} (h : fldB P t i off = true) : fld P t i off := by
  unfold fldB at h
  split at h
  · rename_i fs hu
    split at h
    · rename_i f hf
      simp only [Bool.and_eq_true, beq_iff_eq] at h
      obtain ⟨h1, h2⟩ := h
      split at h2
      · rename_i n hn
        exact ⟨fs, f, n.size, hu, hf, h1, ⟨n, hn, rfl⟩, by simpa using h2⟩
      · cases h2
    · cases h
  · cases h

section
variable {P : Program} {S : WS} {k : Value → Prop}
theorem zpe_ {t : TypeId} {i : TypeInfo} (h : P.info? t = some i) (w : World) : (typeInfo t).run P w = .ok i w := run_typeInfo w h
theorem zec_ {e : TypeId} {n : Nat} (h : szOf P e n) (w : World) : (sizeOf e).run P w = .ok n w := by
  obtain ⟨i, hi, hn⟩ := h
  simp [sizeOf, zpe_ hi, hn]

theorem zmk_ (op : BinOp) (t : TypeId) (x y : Operand) (ka kb : IntKind) (a b : Int) (w : World) : (eqGuard op t x y (.int ka a) (.int kb b)).run P w = .ok () w := by
  unfold eqGuard
  cases op <;> rfl
theorem guard_bool (op : BinOp) (t : TypeId) (x y : Operand) (a b : Bool) (w : World) : (eqGuard op t x y (.bool a) (.bool b)).run P w = .ok () w := by
  unfold eqGuard
  cases op <;> rfl
theorem zae_ {op : BinOp} {t : TypeId} {c : Bool} {kd : IntKind} {x y : Int} {v : Value} (h : ∀ w, (binOp op t (.int kd x) (.int kd y)).run P w = .ok v w) :
    Rd P S (sBin op t c (.int kd x) (.int kd y)) k = k v := ztb_ fun w _ => by
  simp only [sBin, Sem.run_bind, zmk_, Result.andThen, h]
  rfl
@[go_sem] theorem zq18 {t : TypeId} {c : Bool} {kd : IntKind} {x y : Int} : Rd P S (sBin .add t c (.int kd x) (.int kd y)) k = k (.int kd (kd.wrap (x + y))) := zae_ fun w => by simp [binOp, Op.intArith]
@[go_sem] theorem zq19 {t : TypeId} {c : Bool} {kd : IntKind} {x y : Int} : Rd P S (sBin .sub t c (.int kd x) (.int kd y)) k = k (.int kd (kd.wrap (x - y))) := zae_ fun w => by simp [binOp, Op.intArith]
@[go_sem] theorem zq20 {t : TypeId} {c : Bool} {kd : IntKind} {x y : Int} : Rd P S (sBin .mul t c (.int kd x) (.int kd y)) k = k (.int kd (kd.wrap (x * y))) := zae_ fun w => by simp [binOp, Op.intArith]
@[go_sem] theorem zq21 {t : TypeId} {c : Bool} {kd : IntKind} {x y : Int} : Rd P S (sBin .eql t c (.int kd x) (.int kd y)) k = k (.bool (decide (x = y))) := zae_ fun w => by
  simp [binOp, Op.intCmp]
  rfl
@[go_sem] theorem zq22 {t : TypeId} {c : Bool} {kd : IntKind} {x y : Int} : Rd P S (sBin .neq t c (.int kd x) (.int kd y)) k = k (.bool (!decide (x = y))) := zae_ fun w => by
  simp [binOp, Op.intCmp]
  rfl
@[go_sem] theorem zq23 {t : TypeId} {c : Bool} {kd : IntKind} {x y : Int} : Rd P S (sBin .lss t c (.int kd x) (.int kd y)) k = k (.bool (decide (x < y))) := zae_ fun w => by simp [binOp, Op.intCmp]
@[go_sem] theorem zq24 {t : TypeId} {c : Bool} {kd : IntKind} {x y : Int} : Rd P S (sBin .leq t c (.int kd x) (.int kd y)) k = k (.bool (decide (x ≤ y))) := zae_ fun w => by simp [binOp, Op.intCmp]
@[go_sem] theorem zq25 {t : TypeId} {c : Bool} {kd : IntKind} {x y : Int} : Rd P S (sBin .gtr t c (.int kd x) (.int kd y)) k = k (.bool (decide (y < x))) := zae_ fun w => by simp [binOp, Op.intCmp]
@[go_sem] theorem zq26 {t : TypeId} {c : Bool} {kd : IntKind} {x y : Int} : Rd P S (sBin .geq t c (.int kd x) (.int kd y)) k = k (.bool (decide (y ≤ x))) := zae_ fun w => by simp [binOp, Op.intCmp]
theorem bin_rem {t : TypeId} {c : Bool} {kd : IntKind} {x y : Int} (h : y ≠ 0) : Rd P S (sBin .rem t c (.int kd x) (.int kd y)) k = k (.int kd (x.tmod y)) := zae_ fun w => by simp [binOp, Op.intDiv, h]
theorem bin_bool {op : BinOp} {t : TypeId} {c : Bool} {x y : Bool} {v : Value} (h : ∀ w, (binOp op t (.bool x) (.bool y)).run P w = .ok v w) :
    Rd P S (sBin op t c (.bool x) (.bool y)) k = k v := ztb_ fun w _ => by
  simp only [sBin, Sem.run_bind, guard_bool, Result.andThen, h]
  rfl
theorem zkg_ {t : TypeId} {x y : Bool} (ht : P.underlying t = some .bool) (d : Nat) (w : World) : (Op.equalIn (d + 1) t (.bool x) (.bool y)).run P w = .ok (x == y) w := by
  simp [Op.equalIn, run_underlying ht]
@[go_sem] theorem bin_eql_bool {t : TypeId} {c : Bool} {x y : Bool} (ht : P.underlying t = some .bool) : Rd P S (sBin .eql t c (.bool x) (.bool y)) k = k (.bool (x == y)) := bin_bool fun w => by
  show Sem.run P (do pure (Value.bool (← Op.equalIn (9999 + 1) t (.bool x) (.bool y)))) w = _
  simp only [Sem.run_bind, zkg_ ht 9999 w, Result.andThen]
  rfl
@[go_sem] theorem bin_neq_bool {t : TypeId} {c : Bool} {x y : Bool} (ht : P.underlying t = some .bool) : Rd P S (sBin .neq t c (.bool x) (.bool y)) k = k (.bool (!(x == y))) := bin_bool fun w => by
  show Sem.run P (do pure (Value.bool (!(← Op.equalIn (9999 + 1) t (.bool x) (.bool y))))) w = _
  simp only [Sem.run_bind, zkg_ ht 9999 w, Result.andThen]
  rfl
@[go_sem] theorem zq27 {x : Bool} : Rd P S (sUn .not (.bool x)) k = k (.bool !x) := ztb_ fun w _ => rfl
@[go_sem] theorem zq28 {kd : IntKind} {x : Int} : Rd P S (sUn .neg (.int kd x)) k = k (.int kd (kd.wrap (-x))) := ztb_ fun w _ => by
  simp [sUn, Op.unary, Op.intArith]
@[go_sem] theorem zq4 {a b : Value} : Rd P S (zcb_ (.bool true) a b) k = k a := ztb_ fun w _ => rfl
@[go_sem] theorem zq3 {a b : Value} : Rd P S (zcb_ (.bool false) a b) k = k b := ztb_ fun w _ => rfl
@[go_sem] theorem zq1 {a b : Value} : Rd P S (zu_ (.tuple #[a, b]) 0) k = k a := ztb_ fun w _ => rfl
@[go_sem] theorem zq2 {a b : Value} : Rd P S (zu_ (.tuple #[a, b]) 1) k = k b := ztb_ fun w _ => rfl
@[go_sem] theorem extract_three_0 {a b c : Value} : Rd P S (zu_ (.tuple #[a, b, c]) 0) k = k a := ztb_ fun w _ => rfl
@[go_sem] theorem extract_three_1 {a b c : Value} : Rd P S (zu_ (.tuple #[a, b, c]) 1) k = k b := ztb_ fun w _ => rfl
@[go_sem] theorem extract_three_2 {a b c : Value} : Rd P S (zu_ (.tuple #[a, b, c]) 2) k = k c := ztb_ fun w _ => rfl
@[go_sem] theorem makeFunc_ {fn : Fn} {a b : List Value} : Rd P S (zyd_ fn a b) k = k (.func fn a.toArray b.toArray) := ztb_ fun w _ => rfl
@[go_sem] theorem zq0 {a : Addr} : Rd P S (zeb_ (.pointer (some a))) k = k (.pointer (some a)) := ztb_ fun w _ => rfl
@[go_sem] theorem nilCheck_func {g : FuncId} {a b : Array Value} : Rd P S (zeb_ (.func (.func g) a b)) k = k (.func (.func g) a b) := ztb_ fun w _ => rfl
theorem zpd_ {t e : TypeId} (ht : P.underlying t = some (.slice e)) {u : TypeId} {cs : List Bool} {A : Option Addr} {n c : Nat} : Rd P S (zc_ .len #[t] u cs [.slice A n c]) k = k (.int .i64 n) := ztb_ fun w _ => by
  simp [zc_, builtin, Builtin.len_, run_underlying ht, goInt]

@[go_sem] theorem zq29 {x y : Prop} : zm_ (.bool true) x y = x := rfl
@[go_sem] theorem zq30 {x y : Prop} : zm_ (.bool false) x y = y := rfl
@[go_sem] theorem zq14 {run : (Value → World → Prop) → World → Prop} {k : Value → World → Prop} {w : World} : zb_ (.bool true) true run k w = run k w := rfl
@[go_sem] theorem zq15 {run : (Value → World → Prop) → World → Prop} {k : Value → World → Prop} {w : World} : zb_ (.bool false) false run k w = run k w := rfl
@[go_sem] theorem zq16 {run : (Value → World → Prop) → World → Prop} {k : Value → World → Prop} {w : World} : zb_ (.bool true) false run k w = k undef w := rfl
@[go_sem] theorem zq17 {run : (Value → World → Prop) → World → Prop} {k : Value → World → Prop} {w : World} : zb_ (.bool false) true run k w = k undef w := rfl
@[go_sem] theorem zq13 {want : Bool} {run : (Value → World → Prop) → World → Prop} {k : Value → World → Prop} {w : World} : zb_ undef want run k w = k undef w := rfl

@[go_sem] theorem zq10 {N : F → World → Prop} {Q : Exit → F → World → Prop} {f : F} {w : World} : seqQ N Q .normal f w = N f w := rfl
@[go_sem] theorem zq12 {N : F → World → Prop} {Q : Exit → F → World → Prop} {f : F} {w : World} : seqQ N Q .ret f w = Q .ret f w := rfl
@[go_sem] theorem zq11 {N : F → World → Prop} {Q : Exit → F → World → Prop} {i : Nat} {f : F} {w : World} : seqQ N Q (.exit i) f w = Q (.exit i) f w := rfl
@[go_sem] theorem zq7 {id : Nat} {Q : Exit → F → World → Prop} {f : F} {w : World} : zgb_ id Q .ret f w = Q .ret f w := rfl
@[go_sem] theorem zq5 {id : Nat} {Q : Exit → F → World → Prop} {f : F} {w : World} : zgb_ id Q .normal f w = Q .normal f w := rfl
@[go_sem] theorem zq6 {id i : Nat} {Q : Exit → F → World → Prop} {f : F} {w : World} : zgb_ id Q (.exit i) f w = if i = id then Q .normal f w else Q (.exit i) f w := by
  by_cases h : i = id
  · subst h
    simp [zgb_]
  · have hb : Nat.beq i id = false := by
      cases h' : Nat.beq i id
      · rfl
      · exact absurd (Nat.eq_of_beq_eq_true h') h
    simp [zgb_, h, hb]
@[go_sem] theorem zq9 {P : Program} {rs : List ResultVar} {k : Value → World → Prop} {f : F} {w : World} : zv_ P rs k .ret f w = resK P rs f [] (oneOf k) w := rfl
@[go_sem] theorem zq8 {P : Program} {rs : List ResultVar} {k : Value → World → Prop} {f : F} {w : World} : zv_ P rs k .normal f w = resK P rs f [] (oneOf k) w := rfl
@[go_sem] theorem zq31 {P : Program} {f : F} {acc : List Value} {k : List Value → World → Prop} {w : World} : resK P [] f acc k w = k acc w := rfl
@[go_sem] theorem zq32 {P : Program} {t : Tmp} {rs : List ResultVar} {f : F} {acc : List Value} {k : List Value → World → Prop} {w : World} : resK P (.tmp t :: rs) f acc k w = resK P rs f (acc ++ [f t]) k w := rfl
@[go_sem] theorem resK_cell {P : Program} {c t : Nat} {rs : List ResultVar} {f : F} {acc : List Value} {k : List Value → World → Prop} {w : World} : resK P (.cell c t :: rs) f acc k w = Rd P (WS.at w) (zwb_ t (f c)) fun v => resK P rs f (acc ++ [v]) k w := rfl
@[go_sem] theorem oneOf_one {k : Value → World → Prop} {v : Value} {w : World} : oneOf k [v] w = k v w := rfl
@[go_sem] theorem oneOf_one' {k : Value → World → Prop} {v : Value} {w : World} : oneOf k ([] ++ [v]) w = k v w := rfl
@[go_sem] theorem oneOf_two' {k : Value → World → Prop} {u v : Value} {w : World} : oneOf k ([] ++ [u] ++ [v]) w = k (.tuple #[u, v]) w := rfl
@[go_sem] theorem oneOf_three' {k : Value → World → Prop} {u v x : Value} {w : World} : oneOf k ([] ++ [u] ++ [v] ++ [x]) w = k (.tuple #[u, v, x]) w := rfl
@[go_sem] theorem oneOf_nil {k : Value → World → Prop} {w : World} : oneOf k [] w = k (.tuple #[]) w := rfl
@[go_sem] theorem ite_T {α : Sort _} {x y : α} : (if True then x else y) = x := if_pos trivial
@[go_sem] theorem ite_F {α : Sort _} {x y : α} : (if False then x else y) = y := if_neg (fun h => h)
@[go_sem] theorem join_ {b : (F → World → Prop) → Prop} {n : F → World → Prop} : Join b n = b n := rfl
@[go_sem] theorem zq33 (f : F) (d t : Nat) (v : Value) : F.upd f d v t = if t = d then v else f t := by
  by_cases h : t = d
  · subst h
    simp [F.upd_same]
  · simp [F.upd_ne f v h, h]

def ad (A : Option Addr) : Addr := A.getD ⟨0, 0, none⟩
@[go_sem] theorem zq34 (b j i : Nat) : (⟨b, j, none⟩ : Addr).add i = ⟨b, j + i, none⟩ := by
  unfold Addr.add
  split
  · subst_vars; rfl
  · rfl
@[go_sem] theorem zq35 (a : Addr) : a.add 0 = a := by simp [Addr.add]
theorem zkc_ (a : Addr) (i j : Nat) : (a.add i).add j = a.add (i + j) := by
  unfold Addr.add
  by_cases hi : i = 0
  · simp [hi]
  · by_cases hj : j = 0
    · simp [hi, hj]
    · simp [hi, hj, Nat.add_assoc]
theorem zuf_ {t e : TypeId} {sz : Nat} (ht : P.underlying t = some (.slice e)) (hs : szOf P e sz) {A : Option Addr} {n c : Nat} {kd : IntKind} {i : Int} (hA : 0 < n → A = some (ad A)) (h0 : 0 ≤ i) (h1 : i < n) :
    Rd P S (zf_ t (.slice A n c) (.int kd i)) k = k (.pointer (some ((ad A).add (i.toNat * sz)))) := ztb_ fun w _ => by
  rw [hA (by omega)]
  simp [zf_, Instr.indexAt, asIntOf, run_underlying ht, zec_ hs, h0, h1, ad]
theorem zjg_ {t e : TypeId} {m sz : Nat} (ht : P.underlying t = some (.array m e)) (hs : szOf P e sz) {a : Addr} {kd : IntKind} {i : Int} (h0 : 0 ≤ i) (h1 : i < m) :
    Rd P S (zf_ t (.pointer (some a)) (.int kd i)) k = k (.pointer (some (a.add (i.toNat * sz)))) := ztb_ fun w _ => by
  simp [zf_, Instr.indexAt, asIntOf, run_underlying ht, zec_ hs, h0, h1, Instr.sureAddr]
theorem zg_ {t : TypeId} {i off : Nat} (hf : fld P t i off) {a : Addr} : Rd P S (za_ t (.pointer (some a)) i) k = k (.pointer (some (a.add off))) := ztb_ fun w _ => by
  obtain ⟨fs, f, n, ht, hf, ho, hs, hn⟩ := hf
  simp [za_, Instr.fieldAt, run_underlying ht, hf, Instr.sureAddr, fieldPlace, zec_ hs, hn, ho]

theorem zgm_ {t : TypeId} (h : one P t) (w : World) : (isAgg t).run P w = .ok false w := by
  obtain ⟨d, hd, hm⟩ := h
  simp only [isAgg, Sem.run_bind, run_underlying hd, Result.andThen]
  cases d <;> first | rfl | exact hm.elim
theorem zhm_ {t : TypeId} (h : agg P t) (w : World) : (isAgg t).run P w = .ok true w := by
  obtain ⟨d, hd, hm⟩ := h
  simp only [isAgg, Sem.run_bind, run_underlying hd, Result.andThen]
  cases d <;> first | rfl | exact hm.elim
theorem run_load {a : Addr} {v : Value} {w : World} (h : w.cell? a = some v) : (load a).run P w = .ok v w := by simp [load, Sem.run, h]
theorem zmc_ {t : TypeId} (ht : one P t) {a : Addr} {v : Value} (h : ∀ w, S.S w → w.cell? a = some v) : Rd P S (zd_ t (.pointer (some a))) k = k v := ztb_ fun w hw => by
  simp only [zd_, Instr.loadAt, loadVar, Instr.sureAddr, Sem.run_bind, Sem.run_pure, Result.andThen, zgm_ ht]
  simp [h w hw]
theorem zyh_ {a : Addr} {w : World} : ∀ (cs : List Value) (i : Nat) (acc : Array Value), (∀ j (h : j < cs.length), w.cell? (a.add (i + j)) = some cs[j]) → (loadCellsFrom a i cs.length acc).run P w = .ok (acc ++ cs.toArray) w := by
  intro cs
  induction cs with
  | nil => intro i acc _; simp [loadCellsFrom]
  | cons c cs ih =>
    intro i acc h
    have h0 := h 0 (by simp)
    have := ih (i + 1) (acc.push c) fun j hj => by
      have := h (j + 1) (by simpa using hj)
      rw [show i + 1 + j = i + (j + 1) from by omega]
      simpa using this
    simp only [List.length_cons, loadCellsFrom, Sem.run_bind]
    rw [run_load (by simpa using h0)]
    simp only [Result.andThen]
    rw [this]
    simp
theorem zug_ {t : TypeId} {n : Nat} (ht : agg P t) (hs : szOf P t n) {a : Addr} {cs : List Value} (hn : cs.length = n) (h : ∀ w, S.S w → ∀ j (h : j < cs.length), w.cell? (a.add j) = some cs[j]) :
    Rd P S (zd_ t (.pointer (some a))) k = k (.agg cs.toArray) := ztb_ fun w hw => by
  have := zyh_ (P := P) cs 0 #[] (fun j hj => by simpa using h w hw j hj)
  rw [hn] at this
  simp [zd_, Instr.loadAt, loadVar, zhm_ ht, zec_ hs, Instr.sureAddr, loadCells, this]
theorem sLoadVar_eq {t : TypeId} {a : Addr} (w : World) : (zwb_ t (.pointer (some a))).run P w = (zd_ t (.pointer (some a))).run P w := by
  simp [zwb_, zd_, Instr.loadAt, Instr.sureAddr, asAddr]
theorem zfe_ {t : TypeId} {a : Addr} : Rd P S (zwb_ t (.pointer (some a))) k = Rd P S (zd_ t (.pointer (some a))) k := by
  simp only [Rd, sLoadVar_eq]

end

abbrev Gr (w w' : World) : Prop := w.grownBy w' none
theorem Gr.refl (w : World) : Gr w w := ⟨rfl, rfl, rfl, Nat.le_refl _, fun _ _ _ => rfl⟩
theorem ze_ {a b c : World} (h : Gr a b) (g : Gr b c) : Gr a c :=
  ⟨g.os.trans h.os, g.tape.trans h.tape, g.output.trans h.output, Nat.le_trans h.size g.size, fun k hk hn => (g.block k (Nat.lt_of_lt_of_le hk h.size) (by simp)).trans (h.block k hk (by simp))⟩
theorem gr_mod {a b c : World} {r : Option Nat} (h : Gr a b) (g : b.grownBy c r) (hr : ∀ q, r = some q → a.heap.size ≤ q) : Gr a c :=
  ⟨g.os.trans h.os, g.tape.trans h.tape, g.output.trans h.output, Nat.le_trans h.size g.size, fun k hk hn => (g.block k (Nat.lt_of_lt_of_le hk h.size) (fun e => by
    have := hr k e.symm
    omega)).trans (h.block k hk (by simp))⟩
theorem zbe_ {a b : World} (h : Gr a b) (r : Option Nat) : a.grownBy b r := ⟨h.os, h.tape, h.output, h.size, fun k hk _ => h.block k hk (by simp)⟩
theorem zhb_ (w : World) : Gr w w.drew := ⟨rfl, rfl, rfl, Nat.le_refl _, fun _ _ _ => rfl⟩
theorem zhi_ (w : World) (o : Obj) : Gr w (w.alloc o) := World.grownBy_alloc w o none
theorem Gr.cell {w w' : World} (h : Gr w w') {a : Addr} {v : Value} (hc : w.cell? a = some v) : w'.cell? a = some v := World.grownBy.cell h hc (by simp)
theorem zch_ {a b c : World} {r : Option Nat} (h : a.grownBy b r) (g : b.grownBy c r) : a.grownBy c r :=
  ⟨g.os.trans h.os, g.tape.trans h.tape, g.output.trans h.output, Nat.le_trans h.size g.size, fun k hk hn => (g.block k (Nat.lt_of_lt_of_le hk h.size) hn).trans (h.block k hk hn)⟩

def Box (w : World) (b : Nat) (cs : List Value) (t : TypeId) : Prop := w.heap[b]? = some (.cells cs.toArray t (0, 0))
theorem Box.lt {w : World} {b : Nat} {cs : List Value} {t : TypeId} (h : Box w b cs t) : b < w.heap.size := (Array.getElem?_eq_some_iff.1 h).1
theorem Box.kept {w w' : World} {b : Nat} {cs : List Value} {t : TypeId} {r : Option Nat} (h : Box w b cs t) (g : w.grownBy w' r) (hr : r ≠ some b) : Box w' b cs t := by
  unfold Box
  rw [g.block b h.lt (fun e => hr e.symm)]
  exact h
theorem Box.gr {w w' : World} {b : Nat} {cs : List Value} {t : TypeId} (h : Box w b cs t) (g : Gr w w') : Box w' b cs t := h.kept g (by simp)
theorem Box.cell {w : World} {b : Nat} {cs : List Value} {t : TypeId} (h : Box w b cs t) (j : Nat) : w.cell? ⟨b, j, none⟩ = cs[j]? := by
  simp only [World.cell?]
  rw [show w.heap[b]? = _ from h]
  simp
theorem Box.frozen {w : World} {b : Nat} {cs : List Value} {t : TypeId} (h : Box w b cs t) (j : Nat) : w.frozen? ⟨b, j, none⟩ = false := by
  simp only [World.frozen?]
  rw [show w.heap[b]? = _ from h]
  simp

section
variable {P : Program} {k : Value → World → Prop} {w : World}
theorem zfc_ {t : TypeId} {v : Value} (h : ∀ b w', Gr w w' → w.heap.size ≤ b → Box w' b v.cells.toList t → k (.pointer (some ⟨b, 0, none⟩)) w') : Do P (sBox t v) k w := by
  have e : (sBox t v).run P w = .ok (.value (.pointer (some ⟨w.heap.size, 0, none⟩))) (w.alloc (.cells v.cells t)) := by
    rfl
  rw [zuc_ e]
  exact h _ _ (zhi_ w _) (Nat.le_refl _) (heap_alloc_new w _)
theorem do_alloc {t : TypeId} {i : TypeInfo} {z : Value} (hi : P.info? t = some i) (hz : i.zero = some z) (h : ∀ b w', Gr w w' → w.heap.size ≤ b → Box w' b z.cells.toList t → k (.pointer (some ⟨b, 0, none⟩)) w') : Do P (zkb_ t) k w := by
  have e : (zkb_ t).run P w = .ok (.value (.pointer (some ⟨w.heap.size, 0, none⟩))) (w.alloc (.cells z.cells t)) := by
    have e0 : (zeroValue t).run P w = .ok z w := by simp [zeroValue, zpe_ hi, hz]
    simp only [zkb_, Instr.alloc, Sem.run_bind, e0, Result.andThen]
    rfl
  rw [zuc_ e]
  exact h _ _ (zhi_ w _) (Nat.le_refl _) (heap_alloc_new w _)

theorem zck_ {b : Nat} {t : TypeId} : ∀ (vs : List Value) (i off : Nat) (cs : List Value) (w : World), Box w b cs t → off + i + vs.length ≤ cs.length → (∀ v ∈ vs, v.oneCell' = true) →
    ∃ w', (storeCells (⟨b, off, none⟩ : Addr) vs i).run P w = .ok () w' ∧ w.grownBy w' (some b) ∧ Box w' b (cs.take (off + i) ++ vs ++ cs.drop (off + i + vs.length)) t ∧ w'.heap.size = w.heap.size := by
  intro vs
  induction vs with
  | nil =>
    intro i off cs w hb _ _
    refine ⟨w, by simp [storeCells], zbe_ (Gr.refl w) _, ?_, rfl⟩
    simpa using hb
  | cons v vs ih =>
    intro i off cs w hb hl h1
    have hlt : off + i < cs.length := by simp at hl; omega
    have hc : w.cell? ⟨b, off + i, none⟩ = some cs[off + i] := by rw [hb.cell]; simp [hlt]
    have hf := hb.frozen (off + i)
    have hb' : Box (w.setCell ⟨b, off + i, none⟩ v) b (cs.set (off + i) v) t := by
      have hlt' := hb.lt
      unfold Box at hb ⊢
      simp only [World.setCell, Array.getElem?_modify, if_true]
      rw [hb]
      simp
    have hg : w.grownBy (w.setCell ⟨b, off + i, none⟩ v) (some b) := ⟨rfl, rfl, rfl, by simp [World.setCell], fun k hk hn => by
      simp only [World.setCell, Array.getElem?_modify]
      rw [if_neg (by intro e; exact hn (by simp [e]))]⟩
    obtain ⟨w', hr, hg', hb'', hsz⟩ := ih (i + 1) off (cs.set (off + i) v) _ hb' (by simp at hl ⊢; omega) (fun u hu => h1 u (List.mem_cons_of_mem _ hu))
    refine ⟨w', ?_, zch_ hg hg', ?_, by rw [hsz]; simp [World.setCell]⟩
    · have hv := h1 v (List.mem_cons_self ..)
      have hst : (store (⟨b, off + i, none⟩ : Addr) v).run P w = .ok () (w.setCell ⟨b, off + i, none⟩ v) := by
        unfold store
        cases v <;> first | (simp [Value.oneCell'] at hv; done) | simp [Sem.run, hc, hf]
      simp only [storeCells, Sem.run_bind, zq34]
      rw [hst]
      exact hr
    · have e : cs.take (off + i) ++ v :: vs ++ cs.drop (off + i + (v :: vs).length) = (cs.set (off + i) v).take (off + (i + 1)) ++ vs ++ (cs.set (off + i) v).drop (off + (i + 1) + vs.length) := by
        rw [show off + (i + 1) = off + i + 1 from by omega, List.take_succ_eq_append_getElem (by simpa using hlt), List.drop_set_of_lt (by omega), List.take_set_of_le (Nat.le_refl _)]
        simp only [List.getElem_set_self, List.length_cons, List.append_assoc, List.cons_append, List.nil_append]
        rw [show off + i + 1 + vs.length = off + i + (vs.length + 1) from by omega]
      rw [e]
      exact hb''
theorem zvf_ {t e : TypeId} {v : Value} {b off n : Nat} {cs : List Value} (hs : szOf P t n) (hv : v.cells.size = n) (h1 : ∀ u ∈ v.cells.toList, u.oneCell' = true) (hb : Box w b cs e) (hl : off + n ≤ cs.length)
    (h : ∀ w', w.grownBy w' (some b) → w'.heap.size = w.heap.size → Box w' b (cs.take off ++ v.cells.toList ++ cs.drop (off + n)) e → k undef w') : Do P (zab_ t (.pointer (some ⟨b, off, none⟩)) v) k w := by
  obtain ⟨w', hr, hg, hb', hsz⟩ := zck_ (P := P) v.cells.toList 0 off cs w hb (by simp [hv]; omega) h1
  have e' : (zab_ t (.pointer (some ⟨b, off, none⟩)) v).run P w = .ok .skip w' := by
    simp only [zab_, Instr.storeAt, Instr.sureAddr, storeVar, Sem.run_bind, Sem.run_pure, Result.andThen, zec_ hs]
    rw [if_neg (by simp [hv])]
    simp only [hr]
  rw [do_skip e']
  have hvl : v.cells.toList.length = n := by simp [hv]
  simp only [Nat.add_zero, hvl] at hb'
  exact h w' hg hsz hb'
end

theorem zxe_ {P : Program} {e n m : Nat} {z : Value} (h : (P.info? e).map (fun i => (i.zero, i.size, i.bytes)) = some (some z, n, m)) : ∃ i, P.info? e = some i ∧ i.zero = some z ∧ i.size = n ∧ i.bytes = m := by
  cases hi : P.info? e with
  | none => rw [hi] at h; cases h
  | some i =>
    rw [hi] at h
    simp only [Option.map_some, Option.some.injEq, Prod.mk.injEq] at h
    exact ⟨i, rfl, h.1, h.2.1, h.2.2⟩
def blk (X : Option Addr) : Option Nat := X.map (·.block)
def Row (w : World) (B : Nat) (e sz : Nat) (X : Option Addr) (n c : Nat) (cells : List Value) : Prop := w.ownsRow B e sz (.slice X n c) n cells
structure SrcQ (w : World) (Y : Option Addr) (cells : List Value) : Prop where
  ptr : cells ≠ [] → Y = some (ad Y)
  cell : ∀ j u, cells[j]? = some u → w.cell? ((ad Y).add j) = some u

theorem own_eq {X : Option Addr} {n c : Nat} : (Value.slice X n c).ownBlock = blk X := by cases X <;> rfl
theorem Row.kept {w w' : World} {B e sz n c : Nat} {X : Option Addr} {cells : List Value} {r : Option Nat} (h : Row w B e sz X n c cells) (g : w.grownBy w' r) (hr : blk X = none ∨ blk X ≠ r) : Row w' B e sz X n c cells :=
  World.ownsRow.kept h g (by rw [own_eq]; exact hr)
theorem Row.gr {w w' : World} {B e sz n c : Nat} {X : Option Addr} {cells : List Value} (h : Row w B e sz X n c cells) (g : Gr w w') : Row w' B e sz X n c cells :=
  h.kept g (by cases hb : blk X <;> simp)
theorem Row.at_ {w : World} {B e sz n c : Nat} {X : Option Addr} {cells : List Value} (h : Row w B e sz X n c cells) : (X = none ∧ n = 0 ∧ c = 0) ∨ ∃ g, X = some ⟨g, 0, none⟩ ∧ B ≤ g ∧ g < w.heap.size := by
  rcases h.2 with ⟨h1, h2⟩ | ⟨g, cap, cur, h1, hb, hg, _⟩
  · simp only [Value.slice.injEq] at h1
    exact .inl ⟨h1.1, h2, h1.2.2⟩
  · simp only [Value.slice.injEq] at h1
    exact .inr ⟨g, h1.1, hb, (Array.getElem?_eq_some_iff.1 hg).1⟩
theorem Row.ge {w : World} {B e sz n c : Nat} {X : Option Addr} {cells : List Value} (h : Row w B e sz X n c cells) {q : Nat} (hq : blk X = some q) : B ≤ q ∧ q < w.heap.size := by
  rcases h.at_ with ⟨rfl, _⟩ | ⟨g, rfl, h1, h2⟩
  · cases hq
  · simp only [blk, Option.map_some, Option.some.injEq] at hq
    exact hq ▸ ⟨h1, h2⟩
theorem Row.len {w : World} {B e sz n c : Nat} {X : Option Addr} {cells : List Value} (h : Row w B e sz X n c cells) : cells.length = n * sz := h.1
theorem Row.cap {w : World} {B e sz n c : Nat} {X : Option Addr} {cells : List Value} (h : Row w B e sz X n c cells) : n ≤ c ∧ c ≤ 9223372036854775807 := by
  rcases h.2 with ⟨h1, h2⟩ | ⟨g, cap, cur, h1, hb, hg, hn, hm, _⟩
  · simp only [Value.slice.injEq] at h1
    omega
  · simp only [Value.slice.injEq] at h1
    obtain ⟨_, _, rfl⟩ := h1
    unfold maxLen at hm
    omega
theorem Row.src {w : World} {B e sz n c : Nat} {X : Option Addr} {cells : List Value} (h : Row w B e sz X n c cells) : SrcQ w X cells := by
  rcases h.at_ with ⟨rfl, rfl, _⟩ | ⟨g, rfl, h1, h2⟩
  · have hl := h.len
    rw [Nat.zero_mul] at hl
    have : cells = [] := List.eq_nil_of_length_eq_zero hl
    subst this
    exact ⟨fun h => absurd rfl h, fun j u hu => by simp at hu⟩
  · exact ⟨fun _ => rfl, World.ownsRow.cells h rfl⟩
theorem Row.ptr {w : World} {B e sz n c : Nat} {X : Option Addr} {cells : List Value} (h : Row w B e sz X n c cells) (hn : 0 < n) : X = some (ad X) := by
  rcases h.at_ with ⟨rfl, rfl, _⟩ | ⟨g, rfl, _⟩
  · omega
  · rfl
theorem Row.nil (w : World) (B e sz : Nat) : Row w B e sz none 0 0 [] := World.ownsRow_nil w B e sz
theorem Row.mono {w : World} {B B' e sz n c : Nat} {X : Option Addr} {cells : List Value} (h : Row w B e sz X n c cells) (hb : B' ≤ B) : Row w B' e sz X n c cells := by
  refine ⟨h.1, ?_⟩
  rcases h.2 with h1 | ⟨g, cap, cur, h1, h2, h3⟩
  · exact .inl h1
  · exact .inr ⟨g, cap, cur, h1, by omega, h3⟩
theorem Row.new {w : World} {B e sz n : Nat} {cs : List Value} (hb : B ≤ w.heap.size) (hn : n ≤ 9223372036854775807) (hl : cs.length = n * sz) : Row (w.alloc (.cells cs.toArray e)) B e sz (some ⟨w.heap.size, 0, none⟩) n n cs := by
  have := World.ownsRow_lit (base := B) (e := e) (size := sz) w cs.toArray n hb (by unfold maxLen; omega) (by simpa using hl)
  simpa [Row] using this

theorem SrcQ.gr {w w' : World} {Y : Option Addr} {cells : List Value} (h : SrcQ w Y cells) (g : Gr w w') : SrcQ w' Y cells := ⟨h.ptr, fun j u hu => g.cell (h.cell j u hu)⟩
theorem SrcQ.nil (w : World) (Y : Option Addr) : SrcQ w Y [] := ⟨fun h => absurd rfl h, fun j u hu => by simp at hu⟩
def sub (X : Option Addr) (l c sz : Nat) : Option Addr := if c = l then X else X.map (·.add (l * sz))
theorem SrcQ.sub {w : World} {X : Option Addr} {cells : List Value} (h : SrcQ w X cells) {l c sz : Nat} (hl : l * sz ≤ cells.length) (hc : cells.length ≤ c * sz) (m : Nat) : SrcQ w (sub X l c sz) ((cells.drop (l * sz)).take m) := by
  by_cases he : c = l
  · subst he
    have : cells.drop (c * sz) = [] := List.drop_eq_nil_of_le hc
    rw [this, List.take_nil]
    exact SrcQ.nil _ _
  · unfold Sh.sub
    rw [if_neg he]
    refine ⟨fun hne => ?_, fun j u hu => ?_⟩
    · have : cells ≠ [] := by
        rintro rfl
        simp at hne
      rw [h.ptr this]
      rfl
    · have hu' : cells[l * sz + j]? = some u := by
        rw [List.getElem?_take] at hu
        split at hu
        · rwa [List.getElem?_drop] at hu
        · cases hu
      have hne : cells ≠ [] := by
        rintro rfl
        simp at hu'
      have := h.cell _ _ hu'
      rw [h.ptr hne]
      show w.cell? (((ad X).add (l * sz)).add j) = some u
      rw [zkc_]
      exact this

section
variable {P : Program} {S : WS} {k : Value → Prop}
theorem zfh_ {t e sz : Nat} (ht : P.underlying t = some (.slice e)) (hs : szOf P e sz) {X : Option Addr} {n c : Nat} {lo hi : Option Value} {l h : Nat} {w : World}
    (hb : (Instr.sliceBounds true n c lo hi none).run P w = .ok (l, h, c) w) : (Instr.sliceAt t (.slice X n c) lo hi none).run P w = .ok (.slice (sub X l c sz) (h - l) (c - l)) w := by
  unfold Instr.sliceAt
  simp only [Sem.run_bind, run_underlying ht, Result.andThen]
  unfold Instr.slice
  simp only [Sem.run_bind, run_underlying ht, Result.andThen, hb, zec_ hs]
  rfl
theorem zdg_ {kd : IntKind} {i : Int} {y : Nat} {code : BoundsCode} (h0 : 0 ≤ i) (h1 : i ≤ y) (w : World) : (Instr.sliceBound (.int kd i) y code).run P w = .ok i.toNat w := by
  simp [Instr.sliceBound, asIntOf, h0, h1]
theorem rd_slice_lh {t e sz : Nat} (ht : P.underlying t = some (.slice e)) (hs : szOf P e sz) {X : Option Addr} {n c : Nat} {kd kd' : IntKind} {l h : Int} (h0 : 0 ≤ l) (h1 : l ≤ h) (h2 : h ≤ c) :
    Rd P S (zbb_ t (.slice X n c) (some (.int kd l)) (some (.int kd' h)) none) k = k (.slice (sub X l.toNat c sz) (h.toNat - l.toNat) (c - l.toNat)) := ztb_ fun w _ => by
  simp only [zbb_, Sem.run_bind]
  rw [zfh_ ht hs (l := l.toNat) (h := h.toNat)]
  · rfl
  · simp only [Instr.sliceBounds, Sem.run_bind, Sem.run_pure, Result.andThen, zdg_ (kd := kd') (y := c) (by omega) h2, zdg_ (kd := kd) (y := h.toNat) h0 (by omega)]
theorem zej_ {t e sz : Nat} (ht : P.underlying t = some (.slice e)) (hs : szOf P e sz) {X : Option Addr} {n c : Nat} {kd' : IntKind} {h : Int} (h1 : 0 ≤ h) (h2 : h ≤ c) :
    Rd P S (zbb_ t (.slice X n c) none (some (.int kd' h)) none) k = k (.slice (sub X 0 c sz) h.toNat c) := ztb_ fun w _ => by
  simp only [zbb_, Sem.run_bind]
  rw [zfh_ ht hs (l := 0) (h := h.toNat)]
  · rfl
  · simp only [Instr.sliceBounds, Sem.run_bind, Sem.run_pure, Result.andThen, zdg_ (kd := kd') (y := c) (by omega) h2]
theorem rd_slice_l {t e sz : Nat} (ht : P.underlying t = some (.slice e)) (hs : szOf P e sz) {X : Option Addr} {n c : Nat} {kd : IntKind} {l : Int} (h0 : 0 ≤ l) (h1 : l ≤ n) :
    Rd P S (zbb_ t (.slice X n c) (some (.int kd l)) none none) k = k (.slice (sub X l.toNat c sz) (n - l.toNat) (c - l.toNat)) := ztb_ fun w _ => by
  simp only [zbb_, Sem.run_bind]
  rw [zfh_ ht hs (l := l.toNat) (h := n)]
  · rfl
  · simp only [Instr.sliceBounds, Sem.run_bind, Sem.run_pure, Result.andThen, zdg_ (kd := kd) (y := n) h0 h1]
end

section
variable {P : Program} {k : Value → World → Prop} {w : World}
theorem zeg_ {t ty e : TypeId} {sz : Nat} (ht : P.underlying t = some (.slice e)) (hs : szOf P e sz) {X : Option Addr} {n c d : Nat} (hc : n ≤ c) :
    (Builtin.append_ #[t, t] ty #[.slice X n c, .slice none 0 d]).run P w = .ok (.slice X n c) w := by
  obtain ⟨i, hi, hn⟩ := hs
  cases X <;> simp [Builtin.append_, run_underlying ht, sizeOf, typeInfo, hi, Builtin.lenOf, Builtin.firstCells, hc, storeCells]
theorem do_append {t e u sz by' : Nat} {i : TypeInfo} {z : Value} (ht : P.underlying t = some (.slice e)) (hi : P.info? e = some i) (hz : i.zero = some z) (hsize : i.size = sz) (hby : i.bytes = by') (hzs : z.cells.size = sz) (hsz : 0 < sz)
    {cs : List Bool} {B n c m d : Nat} {X Y : Option Addr} {cells news : List Value} (hO : Row w B e sz X n c cells) (hS : SrcQ w Y news) (hl : news.length = m * sz) (h1 : ∀ v ∈ news, v.oneCell' = true) (hm : (n + m) * by' ≤ 140737488355328) (hmax : n + m ≤ 9223372036854775807) (hB : B ≤ w.heap.size)
    (h : ∀ X' c' w', Row w' B e sz X' (n + m) c' (cells ++ news) → w.grownBy w' (blk X) → k (.slice X' (n + m) c') w') : Do P (zc_ .append #[t, t] u cs [.slice X n c, .slice Y m d]) k w := by
  have hrun : ∃ v' w', (Builtin.append_ #[t, t] u #[.slice X n c, .slice Y m d]).run P w = .ok v' w' ∧ w'.ownsRow B e sz v' (n + m) (cells ++ news) ∧ w.grownBy w' (blk X) := by
    cases Y with
    | none =>
      have hn : news = [] := by
        cases news with
        | nil => rfl
        | cons v vs => have := hS.ptr (by simp); cases this
      subst hn
      have hm0 : m = 0 := by
        rcases Nat.mul_eq_zero.1 (show m * sz = 0 from hl.symm) with h | h
        · exact h
        · omega
      subst hm0
      exact ⟨_, _, zeg_ ht ⟨i, hi, hsize⟩ hO.cap.1, by rw [List.append_nil, Nat.add_zero]; exact hO, zbe_ (Gr.refl w) _⟩
    | some a =>
      obtain ⟨v', w', h1', h2', h3', _⟩ := run_append_own (P := P) (w := w) B t u e i z sz by' ht hi hz hsize hby hzs hsz _ n cells hO a m d news hl (fun j u hu => hS.cell j u hu) h1 (by unfold maxLen; omega) hm hB
      exact ⟨v', w', h1', h2', by rw [← own_eq]; exact h3'⟩
  obtain ⟨v', w', hr, ho, hg⟩ := hrun
  have e' : (zc_ .append #[t, t] u cs [.slice X n c, .slice Y m d]).run P w = .ok (.value v') w' := by
    simp only [zc_, builtin, Sem.run_bind]
    rw [show [Value.slice X n c, Value.slice Y m d].toArray = #[.slice X n c, .slice Y m d] from rfl, hr]
    rfl
  rw [zuc_ e']
  rcases ho.2 with ⟨rfl, hn⟩ | ⟨g, cap, cur, rfl, rest⟩
  · have := h none 0 w' (by rw [hn] at ho ⊢; exact ho) hg
    rwa [hn] at this
  · exact h _ _ _ ho hg

theorem do_build {t e sz n : Nat} {i : TypeInfo} {z : Value} (ht : P.underlying t = some (.slice e)) (hi : P.info? e = some i) (hz : i.zero = some z) (hsize : i.size = sz) {ps : List (Nat × Value)} {cells : List Value} (hn : n * sz ≤ 16777216) (hn' : n ≤ 9223372036854775807)
    (hf : Instr.fill (fun j => some (j * sz, sz)) (madeCells (if n * sz = 0 then #[] else z.cells) (n * sz)) ps = some cells.toArray) (hl : cells.length = n * sz)
    (h : ∀ b w', w.heap.size ≤ b → b < w'.heap.size → Gr w w' → Box w' b cells e → (∀ B, B ≤ w.heap.size → Row w' B e sz (some ⟨b, 0, none⟩) n n cells) → k (.slice (some ⟨b, 0, none⟩) n n) w') : Do P (zh_ t n ps) k w := by
  have e' : (zh_ t n ps).run P w = .ok (.value (.slice (some ⟨w.heap.size, 0, none⟩) n n)) (w.alloc (.cells cells.toArray e)) := by
    simp only [zh_, Instr.buildSlice, Sem.run_bind, run_underlying ht, Result.andThen, zec_ ⟨i, hi, hsize⟩]
    rw [if_neg (by omega)]
    unfold madeCells at hf
    have e0 : (zeroValue e).run P w = .ok z w := by simp [zeroValue, zpe_ hi, hz]
    by_cases h0 : n * sz = 0
    · rw [if_pos h0] at hf ⊢
      simp only [Sem.run_bind, Sem.run_pure, Result.andThen, hf]
      rfl
    · rw [if_neg h0] at hf ⊢
      simp only [Sem.run_bind, Sem.run_pure, Result.andThen, e0, hf]
      rfl
  rw [zuc_ e']
  exact h _ _ (Nat.le_refl _) (by simp) (zhi_ w _) (heap_alloc_new w _) fun B hB => Row.new hB hn' hl
theorem zum_ {t B e sz n c j : Nat} {X : Option Addr} {cells : List Value} {v : Value} (hs : szOf P t 1) (hv : v.cells.toList = [v]) (h1 : v.oneCell' = true) (hO : Row w B e sz X n c cells) (hj : j < n * sz)
    (h : ∀ w', w.grownBy w' (blk X) → w'.heap.size = w.heap.size → Row w' B e sz X n c (cells.set j v) → k undef w') : Do P (zab_ t (.pointer (some ((ad X).add j))) v) k w := by
  rcases hO.at_ with ⟨rfl, rfl, _⟩ | ⟨g, rfl, hb, hg⟩
  · simp at hj
  have hst := World.ownsRow.stored hO j v
  have hcell : w.cell? ⟨g, j, none⟩ = cells[j]? := World.ownsRow.cellAt hO j hj
  have hlen := hO.len
  have hc : w.cell? ⟨g, j, none⟩ = some cells[j] := by rw [hcell]; simp [hlen, hj]
  have hf : w.frozen? ⟨g, j, none⟩ = false := by
    rcases hO.2 with ⟨h', _⟩ | ⟨g', cap', cur, h', _, hg', _⟩
    · simp at h'
    · simp only [Value.slice.injEq, Option.some.injEq, Addr.mk.injEq] at h'
      simp only [World.frozen?]
      rw [h'.1.1, hg']
      simp
  have hstore : (store (⟨g, j, none⟩ : Addr) v).run P w = .ok () (w.setCell ⟨g, j, none⟩ v) := by
    unfold store
    cases v <;> first | (simp [Value.oneCell'] at h1; done) | simp [Sem.run, hc, hf]
  have e' : (zab_ t (.pointer (some (⟨g, j, none⟩ : Addr))) v).run P w = .ok .skip (w.setCell ⟨g, j, none⟩ v) := by
    have hvs : v.cells.size = 1 := by rw [← Array.length_toList, hv]; rfl
    simp only [zab_, Instr.storeAt, Instr.sureAddr, storeVar, Sem.run_bind, Sem.run_pure, Result.andThen, zec_ hs]
    rw [if_neg (by simp [hvs])]
    simp only [hv, storeCells, Sem.run_bind, zq35, hstore, Result.andThen]
    rfl
  have ea : (ad (some (⟨g, 0, none⟩ : Addr))).add j = ⟨g, j, none⟩ := by
    show (⟨g, 0, none⟩ : Addr).add j = _
    rw [zq34, Nat.zero_add]
  rw [ea, do_skip e']
  exact h _ hst.2 (by simp [World.setCell]) hst.1
abbrev Inf (P : Program) (e : TypeId) (z : Value) (sz by' : Nat) : Prop := ∃ i, P.info? e = some i ∧ i.zero = some z ∧ i.size = sz ∧ i.bytes = by'
theorem zvm_ {t e u sz by' : Nat} {z : Value} (ht : P.underlying t = some (.slice e)) (H : Inf P e z sz by') (hzs : z.cells.size = sz) (hsz : 0 < sz)
    {cs : List Bool} {B n c m d : Nat} {X Y : Option Addr} {cells news : List Value} (hO : Row w B e sz X n c cells) (hS : SrcQ w Y news) (hl : news.length = m * sz) (h1 : ∀ v ∈ news, v.oneCell' = true) (hm : (n + m) * by' ≤ 140737488355328) (hmax : n + m ≤ 9223372036854775807) (hB : B ≤ w.heap.size)
    (h : ∀ X' c' w', Row w' B e sz X' (n + m) c' (cells ++ news) → w.grownBy w' (blk X) → k (.slice X' (n + m) c') w') : Do P (zc_ .append #[t, t] u cs [.slice X n c, .slice Y m d]) k w := by
  obtain ⟨i, a, b, e', f⟩ := H
  exact do_append ht a b e' f hzs hsz hO hS hl h1 hm hmax hB h
theorem zt_ {t e sz by' n : Nat} {z : Value} (ht : P.underlying t = some (.slice e)) (H : Inf P e z sz by') {ps : List (Nat × Value)} {cells : List Value} (hn : n * sz ≤ 16777216) (hn' : n ≤ 9223372036854775807)
    (hf : Instr.fill (fun j => some (j * sz, sz)) (madeCells (if n * sz = 0 then #[] else z.cells) (n * sz)) ps = some cells.toArray) (hl : cells.length = n * sz)
    (h : ∀ b w', w.heap.size ≤ b → b < w'.heap.size → Gr w w' → Box w' b cells e → (∀ B, B ≤ w.heap.size → Row w' B e sz (some ⟨b, 0, none⟩) n n cells) → k (.slice (some ⟨b, 0, none⟩) n n) w') : Do P (zh_ t n ps) k w := by
  obtain ⟨i, a, b, e', f⟩ := H
  exact do_build ht a b e' hn hn' hf hl h
end
end Go.Sh

set_option maxRecDepth 100000
namespace Go.Proofs.Yteabbgaffgpegaa
open Go Go.Sh
section
variable {S : WS} {k : Value → Prop}
theorem sz3 : szOf Try.prog 3 1 := ztc_ (by kernel_rfl)
theorem one3 : one Try.prog 3 := zwe_ (by kernel_rfl)
theorem ld3 {w : World} {a : Addr} {v : Value} (h : w.cell? a = some v) : Rd Try.prog (WS.at w) (zd_ 3 (.pointer (some a))) k = k v := zmc_ one3 (fun _ hw => by rw [hw]; exact h)
theorem ldS3 {a : Addr} {v : Value} (h : ∀ w, S.S w → w.cell? a = some v) : Rd Try.prog S (zd_ 3 (.pointer (some a))) k = k v := zmc_ one3 h
theorem ldB3 {w : World} {b off e : Nat} {cs : List Value} {v : Value} (hb : Box w b cs e) (h : cs[off]? = some v) : Rd Try.prog (WS.at w) (zd_ 3 (.pointer (some ⟨b, off, none⟩))) k = k v := ld3 ((hb.cell off).trans h)
theorem sz4 : szOf Try.prog 4 1 := ztc_ (by kernel_rfl)
theorem one4 : one Try.prog 4 := zwe_ (by kernel_rfl)
theorem ld4 {w : World} {a : Addr} {v : Value} (h : w.cell? a = some v) : Rd Try.prog (WS.at w) (zd_ 4 (.pointer (some a))) k = k v := zmc_ one4 (fun _ hw => by rw [hw]; exact h)
theorem ldB4 {w : World} {b off e : Nat} {cs : List Value} {v : Value} (hb : Box w b cs e) (h : cs[off]? = some v) : Rd Try.prog (WS.at w) (zd_ 4 (.pointer (some ⟨b, off, none⟩))) k = k v := ld4 ((hb.cell off).trans h)
theorem sz5 : szOf Try.prog 5 1 := ztc_ (by kernel_rfl)
theorem one5 : one Try.prog 5 := zwe_ (by kernel_rfl)
theorem ld5 {w : World} {a : Addr} {v : Value} (h : w.cell? a = some v) : Rd Try.prog (WS.at w) (zd_ 5 (.pointer (some a))) k = k v := zmc_ one5 (fun _ hw => by rw [hw]; exact h)
@[go_sem] theorem fa8_0 {a : Addr} : Rd Try.prog S (za_ 8 (.pointer (some a)) 0) k = k (.pointer (some (a.add 0))) := zg_ (zx_ (by kernel_rfl))
@[go_sem] theorem fa8_1 {a : Addr} : Rd Try.prog S (za_ 8 (.pointer (some a)) 1) k = k (.pointer (some (a.add 1))) := zg_ (zx_ (by kernel_rfl))
@[go_sem] theorem fa8_2 {a : Addr} : Rd Try.prog S (za_ 8 (.pointer (some a)) 2) k = k (.pointer (some (a.add 2))) := zg_ (zx_ (by kernel_rfl))
@[go_sem] theorem fa8_3 {a : Addr} : Rd Try.prog S (za_ 8 (.pointer (some a)) 3) k = k (.pointer (some (a.add 3))) := zg_ (zx_ (by kernel_rfl))
@[go_sem] theorem fa14_0 {a : Addr} : Rd Try.prog S (za_ 14 (.pointer (some a)) 0) k = k (.pointer (some (a.add 0))) := zg_ (zx_ (by kernel_rfl))
@[go_sem] theorem fa14_1 {a : Addr} : Rd Try.prog S (za_ 14 (.pointer (some a)) 1) k = k (.pointer (some (a.add 1))) := zg_ (zx_ (by kernel_rfl))
@[go_sem] theorem fa19_0 {a : Addr} : Rd Try.prog S (za_ 19 (.pointer (some a)) 0) k = k (.pointer (some (a.add 0))) := zg_ (zx_ (by kernel_rfl))
theorem u22 : Try.prog.underlying 22 = some (.slice 5) := by kernel_rfl
@[go_sem] theorem len22 {cs : List Bool} {u : TypeId} {X : Option Addr} {n c : Nat} : Rd Try.prog S (zc_ .len #[22] u cs [.slice X n c]) k = k (.int .i64 n) := zpd_ u22
theorem ix22 {X : Option Addr} {n c : Nat} {kd : IntKind} {i : Int} (hA : 0 < n → X = some (ad X)) (h0 : 0 ≤ i) (h1 : i < n) : Rd Try.prog S (zf_ 22 (.slice X n c) (.int kd i)) k = k (.pointer (some ((ad X).add i.toNat))) := by rw [zuf_ u22 sz5 hA h0 h1, Nat.mul_one]
theorem ixn22 {X : Option Addr} {n c : Nat} {kd : IntKind} {i : Nat} (hA : 0 < n → X = some (ad X)) (h1 : i < n) : Rd Try.prog S (zf_ 22 (.slice X n c) (.int kd i)) k = k (.pointer (some ((ad X).add i))) := ix22 hA (Int.natCast_nonneg i) (Int.ofNat_lt.2 h1)
theorem sz22 : szOf Try.prog 22 1 := ztc_ (by kernel_rfl)
theorem one22 : one Try.prog 22 := zwe_ (by kernel_rfl)
theorem ld22 {w : World} {a : Addr} {v : Value} (h : w.cell? a = some v) : Rd Try.prog (WS.at w) (zd_ 22 (.pointer (some a))) k = k v := zmc_ one22 (fun _ hw => by rw [hw]; exact h)
theorem ldB22 {w : World} {b off e : Nat} {cs : List Value} {v : Value} (hb : Box w b cs e) (h : cs[off]? = some v) : Rd Try.prog (WS.at w) (zd_ 22 (.pointer (some ⟨b, off, none⟩))) k = k v := ld22 ((hb.cell off).trans h)
theorem zdc_ : szOf Try.prog 106 2 := ztc_ (by kernel_rfl)
theorem u24 : Try.prog.underlying 24 = some (.slice 106) := by kernel_rfl
@[go_sem] theorem len24 {cs : List Bool} {u : TypeId} {X : Option Addr} {n c : Nat} : Rd Try.prog S (zc_ .len #[24] u cs [.slice X n c]) k = k (.int .i64 n) := zpd_ u24
theorem ix24 {X : Option Addr} {n c : Nat} {kd : IntKind} {i : Int} (hA : 0 < n → X = some (ad X)) (h0 : 0 ≤ i) (h1 : i < n) : Rd Try.prog S (zf_ 24 (.slice X n c) (.int kd i)) k = k (.pointer (some ((ad X).add (i.toNat * 2)))) := (zuf_ u24 zdc_ hA h0 h1)
theorem zxd_ {X : Option Addr} {n c : Nat} {kd : IntKind} {i : Nat} (hA : 0 < n → X = some (ad X)) (h1 : i < n) : Rd Try.prog S (zf_ 24 (.slice X n c) (.int kd i)) k = k (.pointer (some ((ad X).add (i * 2)))) := ix24 hA (Int.natCast_nonneg i) (Int.ofNat_lt.2 h1)
theorem ix24_0 {X : Option Addr} {n c : Nat} {kd : IntKind} (hA : 0 < n → X = some (ad X)) (h1 : 0 < n) : Rd Try.prog S (zf_ 24 (.slice X n c) (.int kd 0)) k = k (.pointer (some ((ad X).add 0))) := zxd_ (i := 0) hA h1
theorem zgc_ : ∃ i, Try.prog.info? 106 = some i ∧ i.zero = some (.agg #[.int .i64 0, .slice none 0 0]) ∧ i.size = 2 ∧ i.bytes = 32 := zxe_ (by kernel_rfl)
theorem slh24 {X : Option Addr} {n c : Nat} {kd' : IntKind} {h : Int} (h1 : 0 ≤ h) (h2 : h ≤ c) : Rd Try.prog S (zbb_ 24 (.slice X n c) none (some (.int kd' h)) none) k = k (.slice (sub X 0 c 2) h.toNat c) := zej_ u24 zdc_ h1 h2
theorem sz24 : szOf Try.prog 24 1 := ztc_ (by kernel_rfl)
theorem one24 : one Try.prog 24 := zwe_ (by kernel_rfl)
theorem ld24 {w : World} {a : Addr} {v : Value} (h : w.cell? a = some v) : Rd Try.prog (WS.at w) (zd_ 24 (.pointer (some a))) k = k v := zmc_ one24 (fun _ hw => by rw [hw]; exact h)
theorem ldS24 {a : Addr} {v : Value} (h : ∀ w, S.S w → w.cell? a = some v) : Rd Try.prog S (zd_ 24 (.pointer (some a))) k = k v := zmc_ one24 h
theorem ldB24 {w : World} {b off e : Nat} {cs : List Value} {v : Value} (hb : Box w b cs e) (h : cs[off]? = some v) : Rd Try.prog (WS.at w) (zd_ 24 (.pointer (some ⟨b, off, none⟩))) k = k v := ld24 ((hb.cell off).trans h)
@[go_sem] theorem fa26_0 {a : Addr} : Rd Try.prog S (za_ 26 (.pointer (some a)) 0) k = k (.pointer (some (a.add 0))) := zg_ (zx_ (by kernel_rfl))
@[go_sem] theorem fa26_1 {a : Addr} : Rd Try.prog S (za_ 26 (.pointer (some a)) 1) k = k (.pointer (some (a.add 1))) := zg_ (zx_ (by kernel_rfl))
@[go_sem] theorem fa26_2 {a : Addr} : Rd Try.prog S (za_ 26 (.pointer (some a)) 2) k = k (.pointer (some (a.add 2))) := zg_ (zx_ (by kernel_rfl))
theorem sz26 : szOf Try.prog 26 3 := ztc_ (by kernel_rfl)
theorem inf26 : ∃ i, Try.prog.info? 26 = some i ∧ i.zero = some (.agg #[.int .i64 0, .int .i64 0, .slice none 0 0]) ∧ i.size = 3 ∧ i.bytes = 40 := zxe_ (by kernel_rfl)
theorem zyb_ : agg Try.prog 26 := agg_of (by kernel_rfl)
theorem u27 : Try.prog.underlying 27 = some (.slice 3) := by kernel_rfl
@[go_sem] theorem len27 {cs : List Bool} {u : TypeId} {X : Option Addr} {n c : Nat} : Rd Try.prog S (zc_ .len #[27] u cs [.slice X n c]) k = k (.int .i64 n) := zpd_ u27
theorem ix27 {X : Option Addr} {n c : Nat} {kd : IntKind} {i : Int} (hA : 0 < n → X = some (ad X)) (h0 : 0 ≤ i) (h1 : i < n) : Rd Try.prog S (zf_ 27 (.slice X n c) (.int kd i)) k = k (.pointer (some ((ad X).add i.toNat))) := by rw [zuf_ u27 sz3 hA h0 h1, Nat.mul_one]
theorem zac_ {X : Option Addr} {n c : Nat} {kd : IntKind} {i : Nat} (hA : 0 < n → X = some (ad X)) (h1 : i < n) : Rd Try.prog S (zf_ 27 (.slice X n c) (.int kd i)) k = k (.pointer (some ((ad X).add i))) := ix27 hA (Int.natCast_nonneg i) (Int.ofNat_lt.2 h1)
theorem ix27_0 {X : Option Addr} {n c : Nat} {kd : IntKind} (hA : 0 < n → X = some (ad X)) (h1 : 0 < n) : Rd Try.prog S (zf_ 27 (.slice X n c) (.int kd 0)) k = k (.pointer (some ((ad X).add 0))) := zac_ (i := 0) hA h1
theorem inf3 : ∃ i, Try.prog.info? 3 = some i ∧ i.zero = some (.int .i64 0) ∧ i.size = 1 ∧ i.bytes = 8 := zxe_ (by kernel_rfl)
theorem ap27 {w : World} {k : Value → World → Prop} {u : TypeId} {cs : List Bool} {B n c m d : Nat} {X Y : Option Addr} {cells news : List Value} (hO : Row w B 3 1 X n c cells) (hS : SrcQ w Y news) (hl : news.length = m * 1) (h1 : ∀ v ∈ news, v.oneCell' = true) (hm : (n + m) * 8 ≤ 140737488355328) (hB : B ≤ w.heap.size) (h : ∀ X' c' w', Row w' B 3 1 X' (n + m) c' (cells ++ news) → w.grownBy w' (blk X) → k (.slice X' (n + m) c') w') : Do Try.prog (zc_ .append #[27, 27] u cs [.slice X n c, .slice Y m d]) k w := zvm_ u27 inf3 rfl (by decide) hO hS hl h1 hm (by omega) hB h
theorem bs27 {w : World} {k : Value → World → Prop} {n : Nat} {ps : List (Nat × Value)} (cells : List Value) (hn : n ≤ 65536) (hf : Instr.fill (fun j => some (j * 1, 1)) (madeCells (if n * 1 = 0 then #[] else Value.cells (.int .i64 0)) (n * 1)) ps = some cells.toArray) (hl : cells.length = n * 1) (h : ∀ b w', w.heap.size ≤ b → b < w'.heap.size → Gr w w' → Box w' b cells 3 → (∀ B, B ≤ w.heap.size → Row w' B 3 1 (some ⟨b, 0, none⟩) n n cells) → k (.slice (some ⟨b, 0, none⟩) n n) w') : Do Try.prog (zh_ 27 n ps) k w := zt_ u27 inf3 (by omega) (by omega) hf hl h
theorem sl27 {X : Option Addr} {n c : Nat} {kd kd' : IntKind} {l h : Int} (h0 : 0 ≤ l) (h1 : l ≤ h) (h2 : h ≤ c) : Rd Try.prog S (zbb_ 27 (.slice X n c) (some (.int kd l)) (some (.int kd' h)) none) k = k (.slice (sub X l.toNat c 1) (h.toNat - l.toNat) (c - l.toNat)) := rd_slice_lh u27 sz3 h0 h1 h2
theorem slh27 {X : Option Addr} {n c : Nat} {kd' : IntKind} {h : Int} (h1 : 0 ≤ h) (h2 : h ≤ c) : Rd Try.prog S (zbb_ 27 (.slice X n c) none (some (.int kd' h)) none) k = k (.slice (sub X 0 c 1) h.toNat c) := zej_ u27 sz3 h1 h2
theorem zid_ {X : Option Addr} {n c : Nat} {kd : IntKind} {l : Int} (h0 : 0 ≤ l) (h1 : l ≤ n) : Rd Try.prog S (zbb_ 27 (.slice X n c) (some (.int kd l)) none none) k = k (.slice (sub X l.toNat c 1) (n - l.toNat) (c - l.toNat)) := rd_slice_l u27 sz3 h0 h1
theorem sz27 : szOf Try.prog 27 1 := ztc_ (by kernel_rfl)
theorem one27 : one Try.prog 27 := zwe_ (by kernel_rfl)
theorem ld27 {w : World} {a : Addr} {v : Value} (h : w.cell? a = some v) : Rd Try.prog (WS.at w) (zd_ 27 (.pointer (some a))) k = k v := zmc_ one27 (fun _ hw => by rw [hw]; exact h)
theorem ldS27 {a : Addr} {v : Value} (h : ∀ w, S.S w → w.cell? a = some v) : Rd Try.prog S (zd_ 27 (.pointer (some a))) k = k v := zmc_ one27 h
theorem zjd_ {w : World} {b off e : Nat} {cs : List Value} {v : Value} (hb : Box w b cs e) (h : cs[off]? = some v) : Rd Try.prog (WS.at w) (zd_ 27 (.pointer (some ⟨b, off, none⟩))) k = k v := ld27 ((hb.cell off).trans h)
theorem u35 : Try.prog.underlying 35 = some (.slice 27) := by kernel_rfl
@[go_sem] theorem len35 {cs : List Bool} {u : TypeId} {X : Option Addr} {n c : Nat} : Rd Try.prog S (zc_ .len #[35] u cs [.slice X n c]) k = k (.int .i64 n) := zpd_ u35
theorem inf27 : ∃ i, Try.prog.info? 27 = some i ∧ i.zero = some (.slice none 0 0) ∧ i.size = 1 ∧ i.bytes = 24 := zxe_ (by kernel_rfl)
@[go_sem] theorem fa45_0 {a : Addr} : Rd Try.prog S (za_ 45 (.pointer (some a)) 0) k = k (.pointer (some (a.add 0))) := zg_ (zx_ (by kernel_rfl))
@[go_sem] theorem fa45_1 {a : Addr} : Rd Try.prog S (za_ 45 (.pointer (some a)) 1) k = k (.pointer (some (a.add 1))) := zg_ (zx_ (by kernel_rfl))
@[go_sem] theorem fa57_0 {a : Addr} : Rd Try.prog S (za_ 57 (.pointer (some a)) 0) k = k (.pointer (some (a.add 0))) := zg_ (zx_ (by kernel_rfl))
@[go_sem] theorem fa57_1 {a : Addr} : Rd Try.prog S (za_ 57 (.pointer (some a)) 1) k = k (.pointer (some (a.add 1))) := zg_ (zx_ (by kernel_rfl))
@[go_sem] theorem fa57_2 {a : Addr} : Rd Try.prog S (za_ 57 (.pointer (some a)) 2) k = k (.pointer (some (a.add 2))) := zg_ (zx_ (by kernel_rfl))
@[go_sem] theorem fa57_3 {a : Addr} : Rd Try.prog S (za_ 57 (.pointer (some a)) 3) k = k (.pointer (some (a.add 3))) := zg_ (zx_ (by kernel_rfl))
@[go_sem] theorem fa57_4 {a : Addr} : Rd Try.prog S (za_ 57 (.pointer (some a)) 4) k = k (.pointer (some (a.add 4))) := zg_ (zx_ (by kernel_rfl))
@[go_sem] theorem fa57_5 {a : Addr} : Rd Try.prog S (za_ 57 (.pointer (some a)) 5) k = k (.pointer (some (a.add 5))) := zg_ (zx_ (by kernel_rfl))
theorem sz84 : szOf Try.prog 84 1 := ztc_ (by kernel_rfl)
theorem one84 : one Try.prog 84 := zwe_ (by kernel_rfl)
theorem ld84 {w : World} {a : Addr} {v : Value} (h : w.cell? a = some v) : Rd Try.prog (WS.at w) (zd_ 84 (.pointer (some a))) k = k v := zmc_ one84 (fun _ hw => by rw [hw]; exact h)
theorem ldB84 {w : World} {b off e : Nat} {cs : List Value} {v : Value} (hb : Box w b cs e) (h : cs[off]? = some v) : Rd Try.prog (WS.at w) (zd_ 84 (.pointer (some ⟨b, off, none⟩))) k = k v := ld84 ((hb.cell off).trans h)
@[go_sem] theorem fa86_0 {a : Addr} : Rd Try.prog S (za_ 86 (.pointer (some a)) 0) k = k (.pointer (some (a.add 0))) := zg_ (zx_ (by kernel_rfl))
@[go_sem] theorem fa86_1 {a : Addr} : Rd Try.prog S (za_ 86 (.pointer (some a)) 1) k = k (.pointer (some (a.add 1))) := zg_ (zx_ (by kernel_rfl))
@[go_sem] theorem fa86_2 {a : Addr} : Rd Try.prog S (za_ 86 (.pointer (some a)) 2) k = k (.pointer (some (a.add 2))) := zg_ (zx_ (by kernel_rfl))
theorem u93 : Try.prog.underlying 93 = some (.array 11 4) := by kernel_rfl
theorem ixa93 {a : Addr} {kd : IntKind} {i : Int} (h0 : 0 ≤ i) (h1 : i < 11) : Rd Try.prog S (zf_ 93 (.pointer (some a)) (.int kd i)) k = k (.pointer (some (a.add i.toNat))) := by rw [zjg_ u93 sz4 h0 h1, Nat.mul_one]
theorem sz93 : szOf Try.prog 93 11 := ztc_ (by kernel_rfl)
theorem u94 : Try.prog.underlying 94 = some (.array 11 93) := by kernel_rfl
theorem ixa94 {a : Addr} {kd : IntKind} {i : Int} (h0 : 0 ≤ i) (h1 : i < 11) : Rd Try.prog S (zf_ 94 (.pointer (some a)) (.int kd i)) k = k (.pointer (some (a.add (i.toNat * 11)))) := (zjg_ u94 sz93 h0 h1)
theorem sz94 : szOf Try.prog 94 121 := ztc_ (by kernel_rfl)
theorem u95 : Try.prog.underlying 95 = some (.array 6 94) := by kernel_rfl
theorem ixa95 {a : Addr} {kd : IntKind} {i : Int} (h0 : 0 ≤ i) (h1 : i < 6) : Rd Try.prog S (zf_ 95 (.pointer (some a)) (.int kd i)) k = k (.pointer (some (a.add (i.toNat * 121)))) := (zjg_ u95 sz94 h0 h1)
@[go_sem] theorem fa97_0 {a : Addr} : Rd Try.prog S (za_ 97 (.pointer (some a)) 0) k = k (.pointer (some (a.add 0))) := zg_ (zx_ (by kernel_rfl))
@[go_sem] theorem fa97_1 {a : Addr} : Rd Try.prog S (za_ 97 (.pointer (some a)) 1) k = k (.pointer (some (a.add 1))) := zg_ (zx_ (by kernel_rfl))
theorem u101 : Try.prog.underlying 101 = some (.slice 98) := by kernel_rfl
@[go_sem] theorem len101 {cs : List Bool} {u : TypeId} {X : Option Addr} {n c : Nat} : Rd Try.prog S (zc_ .len #[101] u cs [.slice X n c]) k = k (.int .i64 n) := zpd_ u101
theorem inf98 : ∃ i, Try.prog.info? 98 = some i ∧ i.zero = some (.pointer none) ∧ i.size = 1 ∧ i.bytes = 8 := zxe_ (by kernel_rfl)
theorem bs101 {w : World} {k : Value → World → Prop} {n : Nat} {ps : List (Nat × Value)} (cells : List Value) (hn : n ≤ 65536) (hf : Instr.fill (fun j => some (j * 1, 1)) (madeCells (if n * 1 = 0 then #[] else Value.cells (.pointer none)) (n * 1)) ps = some cells.toArray) (hl : cells.length = n * 1) (h : ∀ b w', w.heap.size ≤ b → b < w'.heap.size → Gr w w' → Box w' b cells 98 → (∀ B, B ≤ w.heap.size → Row w' B 98 1 (some ⟨b, 0, none⟩) n n cells) → k (.slice (some ⟨b, 0, none⟩) n n) w') : Do Try.prog (zh_ 101 n ps) k w := zt_ u101 inf98 (by omega) (by omega) hf hl h
theorem sz101 : szOf Try.prog 101 1 := ztc_ (by kernel_rfl)
theorem one101 : one Try.prog 101 := zwe_ (by kernel_rfl)
theorem ld101 {w : World} {a : Addr} {v : Value} (h : w.cell? a = some v) : Rd Try.prog (WS.at w) (zd_ 101 (.pointer (some a))) k = k v := zmc_ one101 (fun _ hw => by rw [hw]; exact h)
theorem ldB101 {w : World} {b off e : Nat} {cs : List Value} {v : Value} (hb : Box w b cs e) (h : cs[off]? = some v) : Rd Try.prog (WS.at w) (zd_ 101 (.pointer (some ⟨b, off, none⟩))) k = k v := ld101 ((hb.cell off).trans h)
@[go_sem] theorem fa103_0 {a : Addr} : Rd Try.prog S (za_ 103 (.pointer (some a)) 0) k = k (.pointer (some (a.add 0))) := zg_ (zx_ (by kernel_rfl))
@[go_sem] theorem fa103_1 {a : Addr} : Rd Try.prog S (za_ 103 (.pointer (some a)) 1) k = k (.pointer (some (a.add 1))) := zg_ (zx_ (by kernel_rfl))
@[go_sem] theorem fa103_2 {a : Addr} : Rd Try.prog S (za_ 103 (.pointer (some a)) 2) k = k (.pointer (some (a.add 2))) := zg_ (zx_ (by kernel_rfl))
@[go_sem] theorem fa103_3 {a : Addr} : Rd Try.prog S (za_ 103 (.pointer (some a)) 3) k = k (.pointer (some (a.add 3))) := zg_ (zx_ (by kernel_rfl))
@[go_sem] theorem fa103_4 {a : Addr} : Rd Try.prog S (za_ 103 (.pointer (some a)) 4) k = k (.pointer (some (a.add 4))) := zg_ (zx_ (by kernel_rfl))
@[go_sem] theorem fa103_5 {a : Addr} : Rd Try.prog S (za_ 103 (.pointer (some a)) 5) k = k (.pointer (some (a.add 5))) := zg_ (zx_ (by kernel_rfl))
@[go_sem] theorem fa103_6 {a : Addr} : Rd Try.prog S (za_ 103 (.pointer (some a)) 6) k = k (.pointer (some (a.add 6))) := zg_ (zx_ (by kernel_rfl))
@[go_sem] theorem fa106_0 {a : Addr} : Rd Try.prog S (za_ 106 (.pointer (some a)) 0) k = k (.pointer (some (a.add 0))) := zg_ (zx_ (by kernel_rfl))
@[go_sem] theorem fa106_1 {a : Addr} : Rd Try.prog S (za_ 106 (.pointer (some a)) 1) k = k (.pointer (some (a.add 1))) := zg_ (zx_ (by kernel_rfl))
theorem zvc_ : agg Try.prog 106 := agg_of (by kernel_rfl)
@[go_sem] theorem fa133_0 {a : Addr} : Rd Try.prog S (za_ 133 (.pointer (some a)) 0) k = k (.pointer (some (a.add 0))) := zg_ (zx_ (by kernel_rfl))
@[go_sem] theorem fa133_1 {a : Addr} : Rd Try.prog S (za_ 133 (.pointer (some a)) 1) k = k (.pointer (some (a.add 3))) := zg_ (zx_ (by kernel_rfl))
@[go_sem] theorem fa133_2 {a : Addr} : Rd Try.prog S (za_ 133 (.pointer (some a)) 2) k = k (.pointer (some (a.add 4))) := zg_ (zx_ (by kernel_rfl))
@[go_sem] theorem fa133_3 {a : Addr} : Rd Try.prog S (za_ 133 (.pointer (some a)) 3) k = k (.pointer (some (a.add 5))) := zg_ (zx_ (by kernel_rfl))
@[go_sem] theorem fa145_0 {a : Addr} : Rd Try.prog S (za_ 145 (.pointer (some a)) 0) k = k (.pointer (some (a.add 0))) := zg_ (zx_ (by kernel_rfl))
@[go_sem] theorem fa145_1 {a : Addr} : Rd Try.prog S (za_ 145 (.pointer (some a)) 1) k = k (.pointer (some (a.add 6))) := zg_ (zx_ (by kernel_rfl))
@[go_sem] theorem fa145_2 {a : Addr} : Rd Try.prog S (za_ 145 (.pointer (some a)) 2) k = k (.pointer (some (a.add 12))) := zg_ (zx_ (by kernel_rfl))
@[go_sem] theorem fa145_3 {a : Addr} : Rd Try.prog S (za_ 145 (.pointer (some a)) 3) k = k (.pointer (some (a.add 36))) := zg_ (zx_ (by kernel_rfl))
@[go_sem] theorem fa145_4 {a : Addr} : Rd Try.prog S (za_ 145 (.pointer (some a)) 4) k = k (.pointer (some (a.add 60))) := zg_ (zx_ (by kernel_rfl))
theorem sz150 : szOf Try.prog 150 1 := ztc_ (by kernel_rfl)
theorem one150 : one Try.prog 150 := zwe_ (by kernel_rfl)
theorem ld150 {w : World} {a : Addr} {v : Value} (h : w.cell? a = some v) : Rd Try.prog (WS.at w) (zd_ 150 (.pointer (some a))) k = k v := zmc_ one150 (fun _ hw => by rw [hw]; exact h)
theorem ldB150 {w : World} {b off e : Nat} {cs : List Value} {v : Value} (hb : Box w b cs e) (h : cs[off]? = some v) : Rd Try.prog (WS.at w) (zd_ 150 (.pointer (some ⟨b, off, none⟩))) k = k v := ld150 ((hb.cell off).trans h)
theorem u186 : Try.prog.underlying 186 = some (.slice 35) := by kernel_rfl
@[go_sem] theorem len186 {cs : List Bool} {u : TypeId} {X : Option Addr} {n c : Nat} : Rd Try.prog S (zc_ .len #[186] u cs [.slice X n c]) k = k (.int .i64 n) := zpd_ u186
@[go_sem] theorem fa189_0 {a : Addr} : Rd Try.prog S (za_ 189 (.pointer (some a)) 0) k = k (.pointer (some (a.add 0))) := zg_ (zx_ (by kernel_rfl))
@[go_sem] theorem fa189_1 {a : Addr} : Rd Try.prog S (za_ 189 (.pointer (some a)) 1) k = k (.pointer (some (a.add 3))) := zg_ (zx_ (by kernel_rfl))
@[go_sem] theorem fa189_2 {a : Addr} : Rd Try.prog S (za_ 189 (.pointer (some a)) 2) k = k (.pointer (some (a.add 4))) := zg_ (zx_ (by kernel_rfl))
theorem u191 : Try.prog.underlying 191 = some (.slice 4) := by kernel_rfl
@[go_sem] theorem len191 {cs : List Bool} {u : TypeId} {X : Option Addr} {n c : Nat} : Rd Try.prog S (zc_ .len #[191] u cs [.slice X n c]) k = k (.int .i64 n) := zpd_ u191
theorem u192 : Try.prog.underlying 192 = some (.slice 191) := by kernel_rfl
@[go_sem] theorem len192 {cs : List Bool} {u : TypeId} {X : Option Addr} {n c : Nat} : Rd Try.prog S (zc_ .len #[192] u cs [.slice X n c]) k = k (.int .i64 n) := zpd_ u192
@[go_sem] theorem fa206_0 {a : Addr} : Rd Try.prog S (za_ 206 (.pointer (some a)) 0) k = k (.pointer (some (a.add 0))) := zg_ (zx_ (by kernel_rfl))
@[go_sem] theorem fa206_1 {a : Addr} : Rd Try.prog S (za_ 206 (.pointer (some a)) 1) k = k (.pointer (some (a.add 1))) := zg_ (zx_ (by kernel_rfl))
@[go_sem] theorem fa206_2 {a : Addr} : Rd Try.prog S (za_ 206 (.pointer (some a)) 2) k = k (.pointer (some (a.add 2))) := zg_ (zx_ (by kernel_rfl))
@[go_sem] theorem fa206_3 {a : Addr} : Rd Try.prog S (za_ 206 (.pointer (some a)) 3) k = k (.pointer (some (a.add 3))) := zg_ (zx_ (by kernel_rfl))
@[go_sem] theorem fa218_0 {a : Addr} : Rd Try.prog S (za_ 218 (.pointer (some a)) 0) k = k (.pointer (some (a.add 0))) := zg_ (zx_ (by kernel_rfl))
@[go_sem] theorem fa218_1 {a : Addr} : Rd Try.prog S (za_ 218 (.pointer (some a)) 1) k = k (.pointer (some (a.add 1))) := zg_ (zx_ (by kernel_rfl))
@[go_sem] theorem fa218_2 {a : Addr} : Rd Try.prog S (za_ 218 (.pointer (some a)) 2) k = k (.pointer (some (a.add 2))) := zg_ (zx_ (by kernel_rfl))
@[go_sem] theorem fa218_3 {a : Addr} : Rd Try.prog S (za_ 218 (.pointer (some a)) 3) k = k (.pointer (some (a.add 3))) := zg_ (zx_ (by kernel_rfl))
@[go_sem] theorem fa218_4 {a : Addr} : Rd Try.prog S (za_ 218 (.pointer (some a)) 4) k = k (.pointer (some (a.add 4))) := zg_ (zx_ (by kernel_rfl))
@[go_sem] theorem fa218_5 {a : Addr} : Rd Try.prog S (za_ 218 (.pointer (some a)) 5) k = k (.pointer (some (a.add 5))) := zg_ (zx_ (by kernel_rfl))
@[go_sem] theorem fa218_6 {a : Addr} : Rd Try.prog S (za_ 218 (.pointer (some a)) 6) k = k (.pointer (some (a.add 6))) := zg_ (zx_ (by kernel_rfl))
@[go_sem] theorem fa218_7 {a : Addr} : Rd Try.prog S (za_ 218 (.pointer (some a)) 7) k = k (.pointer (some (a.add 7))) := zg_ (zx_ (by kernel_rfl))
@[go_sem] theorem fa218_8 {a : Addr} : Rd Try.prog S (za_ 218 (.pointer (some a)) 8) k = k (.pointer (some (a.add 8))) := zg_ (zx_ (by kernel_rfl))
@[go_sem] theorem fa218_9 {a : Addr} : Rd Try.prog S (za_ 218 (.pointer (some a)) 9) k = k (.pointer (some (a.add 9))) := zg_ (zx_ (by kernel_rfl))
@[go_sem] theorem fa218_10 {a : Addr} : Rd Try.prog S (za_ 218 (.pointer (some a)) 10) k = k (.pointer (some (a.add 10))) := zg_ (zx_ (by kernel_rfl))
end

def pl65 : Plans := fun _ => ⟨false, [], .nil⟩
def S65 (v0 v1 v2 : Value) (k : Value → World → Prop) (w : World) : Prop :=
 Rd Try.prog (WS.at w) (sBin .geq 3 false v0 v1) fun t1 =>
 zb_ t1 true (fun k w' => k v0 w') (fun t2 w3 =>
 zb_ t1 true (fun k w' => k v2 w') (fun t4 w5 =>
 zb_ t1 true (fun k w' => Rd Try.prog (WS.at w5) (sBin .leq 3 false t2 t4) fun v => k v w') (fun t6 w7 =>
 Rd Try.prog (WS.at w7) (zcb_ t1 t6 (.bool false)) fun t8 =>
 k t8 w7) w5) w3) w
theorem body65 : Try.f65.body = some (zi_ Try.f65) := by kernel_rfl
theorem same65 (v0 v1 v2 : Value) (k : Value → World → Prop) (w : World) : wpF Try.prog pl65 (zi_ Try.f65) (zv_ Try.prog Try.f65.results.toList k) (zr_ [v0, v1, v2]) w = S65 v0 v1 v2 k w := by kernel_rfl
theorem enter65 {v0 v1 v2 : Value} {k : Value → World → Prop} {w : World} (h : S65 v0 v1 v2 k w) : CallK Try.prog 65 [v0, v1, v2] k w :=
  zk_ (pl := pl65) zdb_ Try.func65 body65 (by kernel_rfl) (of_decide_eq_true (by kernel_rfl)) (by kernel_rfl) (by kernel_rfl) (Eq.mpr (same65 v0 v1 v2 k w) h)

def pl110 : Plans := fun _ => ⟨false, [], .nil⟩
def S110 (v0 v1 v2 : Value) (k : Value → World → Prop) (w : World) : Prop :=
 Rd Try.prog (WS.at w) (zc_ .len #[27] 3 [false] [v0]) fun t1 =>
 zrb_ [12, 13, 14, 8, 15, 16, 17, 18, 19, 6, 20, 11] (fun Q2 f3 w4 =>
  Rd Try.prog (WS.at w4) (sBin .lss 3 false (f3 11) (f3 10)) fun t5 =>
  zm_ t5
   (Rd Try.prog (WS.at w4) (zf_ 27 (f3 9) (f3 11)) fun t6 =>
   Rd Try.prog (WS.at w4) (zd_ 3 t6) fun t7 =>
   CallK Try.prog 67 [t7, (f3 1), (f3 2)] (fun t8 w9 =>
   Rd Try.prog (WS.at w9) (sUn .not t8) fun t10 =>
   zm_ t10
    (Q2 .ret (F.upd (F.upd (F.upd (F.upd (F.upd (F.upd (F.upd (F.upd (F.upd (F.upd f3 12 t5) 13 t6) 14 t7) 8 t7) 15 t7) 16 (f3 1)) 17 (f3 2)) 18 t8) 19 t10) 6 (.bool false)) w9)
    (Rd Try.prog (WS.at w9) (sBin .add 3 true (f3 11) (.int .i64 1)) fun t11 =>
    Q2 .normal (F.upd (F.upd (F.upd (F.upd (F.upd (F.upd (F.upd (F.upd (F.upd (F.upd (F.upd f3 12 t5) 13 t6) 14 t7) 8 t7) 15 t7) 16 (f3 1)) 17 (f3 2)) 18 t8) 19 t10) 20 t11) 11 t11) w9)) w4)
   (Q2 (.exit 0) (F.upd f3 12 t5) w4))
  (zgb_ 0 (seqQ (fun f12 w13 =>
 k (.bool true) w13) (zv_ Try.prog [.tmp 6] k)))
  (F.upd (F.upd (F.upd (F.upd (zr_ [v0, v1, v2]) 6 (.bool false)) 9 v0) 10 t1) 11 (.int .i64 0)) w
theorem body110 : Try.f110.body = some (zi_ Try.f110) := by kernel_rfl
theorem same110 (v0 v1 v2 : Value) (k : Value → World → Prop) (w : World) : wpF Try.prog pl110 (zi_ Try.f110) (zv_ Try.prog Try.f110.results.toList k) (zr_ [v0, v1, v2]) w = S110 v0 v1 v2 k w := by kernel_rfl
theorem enter110 {v0 v1 v2 : Value} {k : Value → World → Prop} {w : World} (h : S110 v0 v1 v2 k w) : CallK Try.prog 110 [v0, v1, v2] k w :=
  zk_ (pl := pl110) zdb_ Try.func110 body110 (by kernel_rfl) (of_decide_eq_true (by kernel_rfl)) (by kernel_rfl) (by kernel_rfl) (Eq.mpr (same110 v0 v1 v2 k w) h)

def pl67 : Plans := fun _ => ⟨false, [], .nil⟩
def S67 (v0 v1 v2 : Value) (k : Value → World → Prop) (w : World) : Prop :=
 Rd Try.prog (WS.at w) (sBin .geq 3 false v0 v1) fun t1 =>
 zb_ t1 true (fun k w' => k v0 w') (fun t2 w3 =>
 zb_ t1 true (fun k w' => k v2 w') (fun t4 w5 =>
 zb_ t1 true (fun k w' => Rd Try.prog (WS.at w5) (sBin .leq 3 false t2 t4) fun v => k v w') (fun t6 w7 =>
 Rd Try.prog (WS.at w7) (zcb_ t1 t6 (.bool false)) fun t8 =>
 k t8 w7) w5) w3) w
theorem body67 : Try.f67.body = some (zi_ Try.f67) := by kernel_rfl
theorem same67 (v0 v1 v2 : Value) (k : Value → World → Prop) (w : World) : wpF Try.prog pl67 (zi_ Try.f67) (zv_ Try.prog Try.f67.results.toList k) (zr_ [v0, v1, v2]) w = S67 v0 v1 v2 k w := by kernel_rfl
theorem enter67 {v0 v1 v2 : Value} {k : Value → World → Prop} {w : World} (h : S67 v0 v1 v2 k w) : CallK Try.prog 67 [v0, v1, v2] k w :=
  zk_ (pl := pl67) zdb_ Try.func67 body67 (by kernel_rfl) (of_decide_eq_true (by kernel_rfl)) (by kernel_rfl) (by kernel_rfl) (Eq.mpr (same67 v0 v1 v2 k w) h)

def pl80 : Plans := fun _ => ⟨false, [], .nil⟩
def S80 (v0 : Value) (k : Value → World → Prop) (w : World) : Prop :=
 Do Try.prog (zh_ 27 0 []) (fun t1 w2 =>
 Do Try.prog (zc_ .append #[27, 27] 27 [false, false] [t1, v0]) (fun t3 w4 =>
 k t3 w4) w2) w
theorem body80 : Try.f80.body = some (zi_ Try.f80) := by kernel_rfl
theorem same80 (v0 : Value) (k : Value → World → Prop) (w : World) : wpF Try.prog pl80 (zi_ Try.f80) (zv_ Try.prog Try.f80.results.toList k) (zr_ [v0]) w = S80 v0 k w := by kernel_rfl
theorem enter80 {v0 : Value} {k : Value → World → Prop} {w : World} (h : S80 v0 k w) : CallK Try.prog 80 [v0] k w :=
  zk_ (pl := pl80) zdb_ Try.func80 body80 (by kernel_rfl) (of_decide_eq_true (by kernel_rfl)) (by kernel_rfl) (by kernel_rfl) (Eq.mpr (same80 v0 k w) h)

def pl101 : Plans := fun _ => ⟨false, [], .nil⟩
def S101 (v0 v1 : Value) (k : Value → World → Prop) (w : World) : Prop :=
 CallK Try.prog 61 [v0, v1] (fun t1 w2 =>
 Rd Try.prog (WS.at w2) (sBin .geq 3 true t1 (.int .i64 0)) fun t3 =>
 k t3 w2) w
theorem body101 : Try.f101.body = some (zi_ Try.f101) := by kernel_rfl
theorem same101 (v0 v1 : Value) (k : Value → World → Prop) (w : World) : wpF Try.prog pl101 (zi_ Try.f101) (zv_ Try.prog Try.f101.results.toList k) (zr_ [v0, v1]) w = S101 v0 v1 k w := by kernel_rfl
theorem enter101 {v0 v1 : Value} {k : Value → World → Prop} {w : World} (h : S101 v0 v1 k w) : CallK Try.prog 101 [v0, v1] k w :=
  zk_ (pl := pl101) zdb_ Try.func101 body101 (by kernel_rfl) (of_decide_eq_true (by kernel_rfl)) (by kernel_rfl) (by kernel_rfl) (Eq.mpr (same101 v0 v1 k w) h)

def pl61 : Plans := fun _ => ⟨false, [], .nil⟩
def S61 (v0 v1 : Value) (k : Value → World → Prop) (w : World) : Prop :=
 Rd Try.prog (WS.at w) (zc_ .len #[27] 3 [false] [v0]) fun t1 =>
 zrb_ [9, 10, 5, 11, 12, 13, 14, 15, 16, 17, 4, 18, 8] (fun Q2 f3 w4 =>
  Rd Try.prog (WS.at w4) (sBin .lss 3 false (f3 8) (f3 7)) fun t5 =>
  zm_ t5
   (Rd Try.prog (WS.at w4) (zf_ 27 (f3 0) (f3 8)) fun t6 =>
   Rd Try.prog (WS.at w4) (zd_ 3 t6) fun t7 =>
   Do Try.prog (zbd_ (f3 1) [t7] 4) (fun t8 w9 =>
   zm_ t8
    (Q2 .ret (F.upd (F.upd (F.upd (F.upd (F.upd (F.upd (F.upd (F.upd (F.upd (F.upd (F.upd f3 9 t5) 10 (f3 8)) 5 (f3 8)) 11 (f3 1)) 12 (f3 0)) 13 (f3 8)) 14 t6) 15 t7) 16 t8) 17 (f3 8)) 4 (f3 8)) w9)
    (Rd Try.prog (WS.at w9) (sBin .add 3 true (f3 8) (.int .i64 1)) fun t10 =>
    Q2 .normal (F.upd (F.upd (F.upd (F.upd (F.upd (F.upd (F.upd (F.upd (F.upd (F.upd (F.upd f3 9 t5) 10 (f3 8)) 5 (f3 8)) 11 (f3 1)) 12 (f3 0)) 13 (f3 8)) 14 t6) 15 t7) 16 t8) 18 t10) 8 t10) w9)) w4)
   (Q2 (.exit 0) (F.upd f3 9 t5) w4))
  (zgb_ 0 (seqQ (fun f11 w12 =>
 k (.int .i64 (-1)) w12) (zv_ Try.prog [.tmp 4] k)))
  (F.upd (F.upd (F.upd (F.upd (zr_ [v0, v1]) 4 (.int .i64 0)) 6 v0) 7 t1) 8 (.int .i64 0)) w
theorem body61 : Try.f61.body = some (zi_ Try.f61) := by kernel_rfl
theorem same61 (v0 v1 : Value) (k : Value → World → Prop) (w : World) : wpF Try.prog pl61 (zi_ Try.f61) (zv_ Try.prog Try.f61.results.toList k) (zr_ [v0, v1]) w = S61 v0 v1 k w := by kernel_rfl
theorem enter61 {v0 v1 : Value} {k : Value → World → Prop} {w : World} (h : S61 v0 v1 k w) : CallK Try.prog 61 [v0, v1] k w :=
  zk_ (pl := pl61) zdb_ Try.func61 body61 (by kernel_rfl) (of_decide_eq_true (by kernel_rfl)) (by kernel_rfl) (by kernel_rfl) (Eq.mpr (same61 v0 v1 k w) h)

end Go.Proofs.Yteabbgaffgpegaa

namespace Go.Sh
open Go
structure Ints (w : World) (X : Option Addr) (xs : List Int) : Prop where
  le : xs.length ≤ 9223372036854775807
  ptr : 0 < xs.length → X = some (ad X)
  cell : ∀ j, j < xs.length → w.cell? ((ad X).add j) = some (.int .i64 (xs.getD j 0))
theorem Ints.gr {w w' : World} {X : Option Addr} {xs : List Int} (h : Ints w X xs) (g : Gr w w') : Ints w' X xs := ⟨h.le, h.ptr, fun j hj => g.cell (h.cell j hj)⟩
theorem zp_ {n : Int} (h0 : -9223372036854775808 ≤ n) (h1 : n ≤ 9223372036854775807) : IntKind.i64.wrap n = n := IntWalk.i64_in n ⟨by omega, by omega⟩
theorem zte_ {xs : List Int} {i : Nat} (h : i < xs.length) : xs.take (i + 1) = xs.take i ++ [xs.getD i 0] := by
  rw [List.take_succ_eq_append_getElem h]
  simp [List.getD_eq_getElem?_getD, h]
def ints (xs : List Int) : List Value := xs.map (Value.int .i64)
theorem zyc_ (xs : List Int) : (ints xs).length = xs.length := by simp [ints]
theorem ints_append (xs ys : List Int) : ints (xs ++ ys) = ints xs ++ ints ys := by simp [ints]
theorem intsAt_ {xs : List Int} {j : Nat} (h : j < xs.length) : (ints xs)[j]? = some (.int .i64 (xs.getD j 0)) := by simp [ints, List.getD_eq_getElem?_getD, h]
theorem zud_ (xs : List Int) : ∀ v ∈ ints xs, v.oneCell' = true := by
  intro v hv
  obtain ⟨x, _, rfl⟩ := List.mem_map.1 hv
  rfl
theorem Ints.src {w : World} {X : Option Addr} {xs : List Int} (h : Ints w X xs) : SrcQ w X (ints xs) := by
  refine ⟨fun hn => h.ptr ?_, fun j u hu => ?_⟩
  · cases xs with
    | nil => exact absurd rfl hn
    | cons x xs => simp
  · have hj : j < xs.length := by
      have := (List.getElem?_eq_some_iff.1 hu).1
      rwa [zyc_] at this
    rw [intsAt_ hj] at hu
    exact (h.cell j hj).trans hu
theorem Ints.of_src {w : World} {X : Option Addr} {xs : List Int} (h : SrcQ w X (ints xs)) (hl : xs.length ≤ 9223372036854775807) : Ints w X xs := by
  refine ⟨hl, fun hp => h.ptr ?_, fun j hj => h.cell j _ (intsAt_ hj)⟩
  cases xs with
  | nil => simp at hp
  | cons x xs => simp [ints]
theorem Ints.sub {w : World} {X : Option Addr} {xs : List Int} (h : Ints w X xs) {l c : Nat} (hl : l ≤ xs.length) (hc : xs.length ≤ c) (m : Nat) : Ints w (sub X l c 1) ((xs.drop l).take m) := by
  refine Ints.of_src ?_ (by have := h.le; simp; omega)
  have := h.src.sub (l := l) (c := c) (sz := 1) (by rw [zyc_]; omega) (by rw [zyc_]; omega) m
  rw [Nat.mul_one] at this
  simpa [ints] using this
abbrev Own (e : Nat) (w : World) (B : Nat) (X : Option Addr) (c : Nat) (xs : List Int) : Prop := Row w B e 1 X xs.length c (ints xs)
theorem Own.ints {e : Nat} {w : World} {B c : Nat} {X : Option Addr} {xs : List Int} (h : Own e w B X c xs) : Ints w X xs := Ints.of_src h.src (by have := Row.cap h; omega)
theorem callV {P : Program} {g : FuncId} {a b : Array Value} {args : List Value} {t : TypeId} {k : Value → World → Prop} {w : World} (h : CallK P g (a.toList ++ args ++ b.toList) k w) : Do P (zbd_ (.func (.func g) a b) args t) k w := by
  have e2 : (a.toList ++ args ++ b.toList).toArray = a ++ args.toArray ++ b := by simp
  rcases h with ⟨⟨fn, hf, hbody, hname⟩, hc⟩ | ⟨v, w1, r1, r2⟩
  case inr =>
    rw [e2] at r1
    have e' : (zbd_ (.func (.func g) a b) args t).run P w = .ok (.value v) w1 := by
      rw [← r1]
      simp [zbd_, Deferred.ofValue, invoke]
    rw [zuc_ e']
    exact r2
  have h1 : ¬ fn.name = "runtime.NumGoroutine" := by simpa using hname
  have h2 : ¬ fn.body = none := by
    intro e
    rw [e] at hbody
    cases hbody
  have e' : (zbd_ (.func (.func g) a b) args t).run P w = .ok (.enter g (a ++ args.toArray ++ b)) w := by
    simp [zbd_, Deferred.ofValue, invoke, callFunc, program, hf, h1, h2, Sem.run]
  unfold Do
  rw [e']
  rw [e2] at hc
  exact hc
theorem callV0 {P : Program} {g : FuncId} {args : List Value} {t : TypeId} {k : Value → World → Prop} {w : World} (h : CallK P g args k w) : Do P (zbd_ (.func (.func g) #[] #[]) args t) k w :=
  callV (a := #[]) (b := #[]) (by
    have e : (#[] : Array Value).toList ++ args ++ (#[] : Array Value).toList = args := by simp
    rw [e]
    exact h)
theorem callVc {P : Program} {g : FuncId} {args caps : List Value} {t : TypeId} {k : Value → World → Prop} {w : World} (h : CallK P g (args ++ caps) k w) : Do P (zbd_ (.func (.func g) #[] caps.toArray) args t) k w :=
  callV (a := #[]) (b := caps.toArray) (by
    have e : (#[] : Array Value).toList ++ args ++ caps.toArray.toList = args ++ caps := by simp
    rw [e]
    exact h)
def inB (n lo hi : Int) : Bool := decide (lo ≤ n) && decide (n ≤ hi)
def allB (xs : List Int) (lo hi : Int) : Bool := xs.all (inB · lo hi)
theorem zcf_ {xs : List Int} {i : Nat} (h : i < xs.length) : xs.getD i 0 ∈ xs := by
  rw [List.getD_eq_getElem?_getD, List.getElem?_eq_getElem h]
  exact List.getElem_mem h
theorem all_of {xs : List Int} {p : Int → Bool} (h : ∀ j, j < xs.length → p (xs.getD j 0) = true) : xs.all p = true := by
  rw [List.all_eq_true]
  intro x hx
  obtain ⟨j, hj, rfl⟩ := List.getElem_of_mem hx
  have := h j hj
  rwa [List.getD_eq_getElem?_getD, List.getElem?_eq_getElem hj] at this
theorem zfj_ {xs : List Int} {p : Int → Bool} {i : Nat} (hi : i < xs.length) (h : p (xs.getD i 0) = false) : xs.all p = false := by
  rw [List.all_eq_false]
  exact ⟨_, zcf_ hi, by rw [h]; decide⟩
end Go.Sh
namespace Go.Proofs.Yteabbgaffgpegaa
open Go Go.Sh Go.RowKit

theorem in_c {n lo hi : Int} {w : World} {k : Value → World → Prop} (hk : k (.bool (inB n lo hi)) w) : CallK Try.prog 65 [.int .i64 n, .int .i64 lo, .int .i64 hi] k w := by
  refine enter65 ?_
  unfold S65
  unfold inB at hk
  simp only [go_sem, Nat.reduceEqDiff]
  by_cases h : lo ≤ n
  · simp only [h, decide_true, go_sem, Nat.reduceEqDiff, Bool.true_and] at hk ⊢
    exact hk
  · simp only [h, decide_false, go_sem, Nat.reduceEqDiff, Bool.false_and] at hk ⊢
    exact hk
theorem zwf_ {n lo hi : Int} {w : World} {k : Value → World → Prop} (hk : k (.bool (inB n lo hi)) w) : CallK Try.prog 67 [.int .i64 n, .int .i64 lo, .int .i64 hi] k w := by
  refine enter67 ?_
  unfold S67
  unfold inB at hk
  simp only [go_sem, Nat.reduceEqDiff]
  by_cases h : lo ≤ n
  · simp only [h, decide_true, go_sem, Nat.reduceEqDiff, Bool.true_and] at hk ⊢
    exact hk
  · simp only [h, decide_false, go_sem, Nat.reduceEqDiff, Bool.false_and] at hk ⊢
    exact hk

theorem l1All_c {w : World} {X : Option Addr} {c : Nat} {xs : List Int} {lo hi : Int} (hx : Ints w X xs) {k : Value → World → Prop} (hk : ∀ w', Gr w w' → k (.bool (allB xs lo hi)) w') :
    CallK Try.prog 110 [.slice X xs.length c, .int .i64 lo, .int .i64 hi] k w := by
  refine enter110 ?_
  unfold S110
  simp only [go_sem, Nat.reduceEqDiff]
  refine ⟨fun f w' => ∃ i : Nat, i ≤ xs.length ∧ f 11 = .int .i64 i ∧ Gr w w' ∧ ∀ j, j < i → inB (xs.getD j 0) lo hi = true, fun f _ => xs.length - (intOf (f 11)).toNat, ⟨0, Nat.zero_le _, rfl, Gr.refl w, fun j hj => absurd hj (Nat.not_lt_zero j)⟩, ?_⟩
  rintro f w1 hag ⟨i, hi', h11, hg, hpre⟩
  have h1 : f 1 = .int .i64 lo := hag 1 (by decide)
  have h2 : f 2 = .int .i64 hi := hag 2 (by decide)
  have h9 : f 9 = .slice X xs.length c := hag 9 (by decide)
  have h10 : f 10 = .int .i64 xs.length := hag 10 (by decide)
  simp only [h1, h2, h9, h10, h11, go_sem, Nat.reduceEqDiff]
  by_cases hlt : i < xs.length
  · have hlt' : (i : Int) < xs.length := by omega
    have := hx.le
    simp only [hlt', decide_true, go_sem, Nat.reduceEqDiff]
    rw [zac_ hx.ptr hlt, ld3 ((hx.gr hg).cell i hlt)]
    refine zwf_ ?_
    simp only [go_sem, Nat.reduceEqDiff]
    cases hb : inB (xs.getD i 0) lo hi
    · simp only [Bool.not_false, go_sem, Nat.reduceEqDiff]
      have := hk _ hg
      rwa [show allB xs lo hi = false from zfj_ hlt hb] at this
    · simp only [Bool.not_true, go_sem, Nat.reduceEqDiff]
      rw [zp_ (by omega) (by omega)]
      refine ⟨⟨i + 1, hlt, rfl, hg, fun j hj => ?_⟩, ?_⟩
      · rcases Nat.lt_succ_iff_lt_or_eq.1 hj with h | rfl
        · exact hpre j h
        · exact hb
      · simp only [intOf]
        omega
  · simp only [show ¬ (i : Int) < xs.length from by omega, decide_false, go_sem, Nat.reduceEqDiff]
    have := hk _ hg
    rwa [show allB xs lo hi = true from all_of fun j hj => hpre j (by omega)] at this
end Go.Proofs.Yteabbgaffgpegaa

namespace Go.Sh
open Go
def marks (k : Int) (n : Nat) : List Int := (List.range n).map fun (j : Nat) => k + (j : Int)
theorem apart {w w' : World} {B e sz n c B' e' sz' n' c' : Nat} {X Y : Option Addr} {cs cs' : List Value} (h : Row w B e sz X n c cs) (h' : Row w' B' e' sz' Y n' c' cs') (hb : w.heap.size ≤ B') : blk X = none ∨ blk X ≠ blk Y := by
  cases hq : blk X with
  | none => exact .inl rfl
  | some q =>
    refine .inr fun e => ?_
    have := (h.ge hq).2
    have := (h'.ge e.symm).1
    omega
theorem Ints.kept {w w' : World} {X : Option Addr} {xs : List Int} {r : Option Nat} (h : Ints w X xs) (g : w.grownBy w' r) (hr : blk X = none ∨ blk X ≠ r) : Ints w' X xs := by
  refine ⟨h.le, h.ptr, fun j hj => ?_⟩
  have hp := h.ptr (by omega)
  refine g.cell (h.cell j hj) ?_
  rw [hp] at hr
  simp only [blk, Option.map_some] at hr
  have : ((ad X).add j).block = (ad X).block := by
    unfold Addr.add
    split <;> rfl
  rw [this]
  rcases hr with h | h
  · cases h
  · exact h
end Go.Sh
namespace Go.Proofs.Yteabbgaffgpegaa
open Go Go.Sh Go.RowKit

end Go.Proofs.Yteabbgaffgpegaa

namespace Go.Sh
open Go
structure Gx (D : Nat → Prop) (w w' : World) : Prop where
  os : w'.os = w.os
  tape : w'.tape = w.tape
  output : w'.output = w.output
  size : w.heap.size ≤ w'.heap.size
  block : ∀ k, k < w.heap.size → ¬ D k → w'.heap[k]? = w.heap[k]?
theorem Gx.refl (D : Nat → Prop) (w : World) : Gx D w w := ⟨rfl, rfl, rfl, Nat.le_refl _, fun _ _ _ => rfl⟩
theorem zxf_ {w w' : World} (g : Gr w w') (D : Nat → Prop) : Gx D w w' := ⟨g.os, g.tape, g.output, g.size, fun k hk _ => g.block k hk (by simp)⟩
theorem gx_of {w w' : World} {r : Option Nat} {D : Nat → Prop} (g : w.grownBy w' r) (h : ∀ q, r = some q → D q) : Gx D w w' := ⟨g.os, g.tape, g.output, g.size, fun k hk hn => g.block k hk fun e => hn (h k e.symm)⟩
theorem Gx.trans {D : Nat → Prop} {a b c : World} (h : Gx D a b) (g : Gx D b c) : Gx D a c :=
  ⟨g.os.trans h.os, g.tape.trans h.tape, g.output.trans h.output, Nat.le_trans h.size g.size, fun k hk hn => (g.block k (Nat.lt_of_lt_of_le hk h.size) hn).trans (h.block k hk hn)⟩
theorem Gx.gr {D : Nat → Prop} {w w' : World} (g : Gx D w w') (h : ∀ k, D k → w.heap.size ≤ k) : Gr w w' :=
  ⟨g.os, g.tape, g.output, g.size, fun k hk _ => g.block k hk fun hd => by have := h k hd; omega⟩
theorem Gx.after {D E : Nat → Prop} {a b c : World} (h : Gx D a b) (g : Gx E b c) (hE : ∀ k, E k → k < a.heap.size → D k) : Gx D a c :=
  ⟨g.os.trans h.os, g.tape.trans h.tape, g.output.trans h.output, Nat.le_trans h.size g.size, fun k hk hn => (g.block k (Nat.lt_of_lt_of_le hk h.size) fun he => hn (hE k he hk)).trans (h.block k hk hn)⟩
theorem Gx.gr_after {E : Nat → Prop} {a b c : World} (h : Gr a b) (g : Gx E b c) (hE : ∀ k, E k → a.heap.size ≤ k) : Gr a c :=
  ((zxf_ h fun _ => False).after g fun k he hk => by have := hE k he; omega).gr fun k hk => hk.elim
theorem zgj_ {w : World} {a : Addr} {v : Value} (h : w.cell? a = some v) : a.block < w.heap.size := by
  refine Classical.byContradiction fun hn => ?_
  have : w.heap[a.block]? = none := Array.getElem?_eq_none (by omega)
  simp [World.cell?, this] at h
theorem Gx.cell {D : Nat → Prop} {w w' : World} (g : Gx D w w') {a : Addr} {v : Value} (hc : w.cell? a = some v) (hn : ¬ D a.block) : w'.cell? a = some v := by
  rw [World.cell?_of_block (g.block _ (zgj_ hc) hn)]
  exact hc
theorem zhc_ (a : Addr) (j : Nat) : (a.add j).block = a.block := by
  unfold Addr.add
  split <;> rfl
theorem Row.gx {D : Nat → Prop} {w w' : World} {B e sz n c : Nat} {X : Option Addr} {cells : List Value} (h : Row w B e sz X n c cells) (g : Gx D w w') (hn : ∀ q, blk X = some q → ¬ D q) : Row w' B e sz X n c cells := by
  obtain ⟨hl, h2⟩ := h
  refine ⟨hl, ?_⟩
  rcases h2 with h2 | ⟨q, cap, cur, e1, e2, e3, e4⟩
  · exact .inl h2
  · refine .inr ⟨q, cap, cur, e1, e2, ?_, e4⟩
    obtain ⟨rfl, _, _⟩ : X = some ⟨q, 0, none⟩ ∧ n = n ∧ c = cap := by simpa using e1
    rw [g.block q (Array.getElem?_eq_some_iff.1 e3).1 (hn q rfl)]
    exact e3
theorem Box.gx {D : Nat → Prop} {w w' : World} {b t : Nat} {cs : List Value} (h : Box w b cs t) (g : Gx D w w') (hn : ¬ D b) : Box w' b cs t := by
  unfold Box
  rw [g.block b h.lt hn]
  exact h

structure IntsF (F : Nat → Prop) (w : World) (X : Option Addr) (xs : List Int) : Prop where
  is : Ints w X xs
  foot : 0 < xs.length → F (ad X).block
theorem IntsF.gx {F D : Nat → Prop} {w w' : World} {X : Option Addr} {xs : List Int} (h : IntsF F w X xs) (g : Gx D w w') (hn : ∀ b, F b → ¬ D b) : IntsF F w' X xs :=
  ⟨⟨h.is.le, h.is.ptr, fun j hj => g.cell (h.is.cell j hj) (by rw [zhc_]; exact hn _ (h.foot (by omega)))⟩, h.foot⟩
theorem IntsF.gr {F : Nat → Prop} {w w' : World} {X : Option Addr} {xs : List Int} (h : IntsF F w X xs) (g : Gr w w') : IntsF F w' X xs := ⟨h.is.gr g, h.foot⟩
theorem IntsF.mono {F E : Nat → Prop} {w : World} {X : Option Addr} {xs : List Int} (h : IntsF F w X xs) (he : ∀ b, F b → E b) : IntsF E w X xs := ⟨h.is, fun hp => he _ (h.foot hp)⟩
theorem IntsF.of_ints {w : World} {X : Option Addr} {xs : List Int} (h : Ints w X xs) : IntsF (fun b => b < w.heap.size) w X xs :=
  ⟨h, fun hp => by have := zgj_ (h.cell 0 hp); rwa [zhc_] at this⟩
theorem IntsF.of_own {e w B X c xs} (h : Own e w B X c xs) : IntsF (fun b => B ≤ b ∧ b < w.heap.size) w X xs :=
  ⟨Own.ints h, fun hp => by
    have hq : X = some (ad X) := Row.ptr h hp
    exact Row.ge h (q := (ad X).block) (by rw [hq]; rfl)⟩

abbrev RuleL := Int × List Int
def rul (rs : List RuleL) (j : Nat) : RuleL := rs.getD j (0, [])
theorem zcd_ {rs : List RuleL} {j : Nat} (h : j < rs.length) : rul rs j = rs[j] := by simp [rul, List.getD_eq_getElem?_getD, h]
structure RulesF (F : Nat → Prop) (w : World) (X : Option Addr) (rs : List RuleL) : Prop where
  le : rs.length ≤ 9223372036854775807
  ptr : 0 < rs.length → X = some (ad X)
  foot : 0 < rs.length → F (ad X).block
  row : ∀ j, j < rs.length → ∃ Y c, w.cell? ((ad X).add (j * 2)) = some (.int .i64 (rul rs j).1) ∧ w.cell? ((ad X).add (j * 2 + 1)) = some (.slice Y (rul rs j).2.length c) ∧ (rul rs j).2.length ≤ c ∧ IntsF F w Y (rul rs j).2
theorem RulesF.gx {F D : Nat → Prop} {w w' : World} {X : Option Addr} {rs : List RuleL} (h : RulesF F w X rs) (g : Gx D w w') (hn : ∀ b, F b → ¬ D b) : RulesF F w' X rs := by
  refine ⟨h.le, h.ptr, h.foot, fun j hj => ?_⟩
  obtain ⟨Y, c, h1, h2, h3, h4⟩ := h.row j hj
  have hf := hn _ (h.foot (by omega))
  exact ⟨Y, c, g.cell h1 (by rw [zhc_]; exact hf), g.cell h2 (by rw [zhc_]; exact hf), h3, h4.gx g hn⟩
theorem RulesF.gr {F : Nat → Prop} {w w' : World} {X : Option Addr} {rs : List RuleL} (h : RulesF F w X rs) (g : Gr w w') : RulesF F w' X rs :=
  h.gx (zxf_ g fun _ => False) fun _ _ h => h
theorem RulesF.mono {F E : Nat → Prop} {w : World} {X : Option Addr} {rs : List RuleL} (h : RulesF F w X rs) (he : ∀ b, F b → E b) : RulesF E w X rs := by
  refine ⟨h.le, h.ptr, fun hp => he _ (h.foot hp), fun j hj => ?_⟩
  obtain ⟨Y, c, h1, h2, h3, h4⟩ := h.row j hj
  exact ⟨Y, c, h1, h2, h3, h4.mono he⟩
def RuleV (F : Nat → Prop) (w : World) (v : Value) (r : RuleL) : Prop := ∃ Y c, v = .agg #[.int .i64 r.1, .slice Y r.2.length c] ∧ r.2.length ≤ c ∧ IntsF F w Y r.2
theorem RuleV.gr {F : Nat → Prop} {w w' : World} {v : Value} {r : RuleL} (h : RuleV F w v r) (g : Gr w w') : RuleV F w' v r := by
  obtain ⟨Y, c, h1, h2, h3⟩ := h
  exact ⟨Y, c, h1, h2, h3.gr g⟩
structure Gram where
  nons : Int
  toks : Int
  rules : List RuleL
deriving DecidableEq
def GramV (F : Nat → Prop) (w : World) (v : Value) (g : Gram) : Prop := ∃ X c, v = .agg #[.int .i64 g.nons, .int .i64 g.toks, .slice X g.rules.length c] ∧ g.rules.length ≤ c ∧ RulesF F w X g.rules
theorem GramV.gr {F : Nat → Prop} {w w' : World} {v : Value} {r : Gram} (h : GramV F w v r) (g : Gr w w') : GramV F w' v r := by
  obtain ⟨Y, c, h1, h2, h3⟩ := h
  exact ⟨Y, c, h1, h2, h3.gr g⟩
theorem GramV.gx {F D : Nat → Prop} {w w' : World} {v : Value} {r : Gram} (h : GramV F w v r) (g : Gx D w w') (hn : ∀ b, F b → ¬ D b) : GramV F w' v r := by
  obtain ⟨Y, c, h1, h2, h3⟩ := h
  exact ⟨Y, c, h1, h2, h3.gx g hn⟩
theorem GramV.mono {F E : Nat → Prop} {w : World} {v : Value} {r : Gram} (h : GramV F w v r) (he : ∀ b, F b → E b) : GramV E w v r := by
  obtain ⟨Y, c, h1, h2, h3⟩ := h
  exact ⟨Y, c, h1, h2, h3.mono he⟩
theorem ld_agg {P : Program} {t : TypeId} {n : Nat} (ht : agg P t) (hs : szOf P t n) {w : World} {a : Addr} {cs : List Value} (hn : cs.length = n) (h : ∀ j (h : j < cs.length), w.cell? (a.add j) = some cs[j]) {k : Value → Prop} :
    Rd P (WS.at w) (zd_ t (.pointer (some a))) k = k (.agg cs.toArray) := zug_ ht hs hn (fun w' hw => by cases hw; exact h)
theorem zfb_ {P : Program} {t : TypeId} {n : Nat} (ht : agg P t) (hs : szOf P t n) {w : World} {b e : Nat} {cs : List Value} (hn : cs.length = n) (hb : Box w b cs e) {k : Value → Prop} :
    Rd P (WS.at w) (zd_ t (.pointer (some ⟨b, 0, none⟩))) k = k (.agg cs.toArray) := ld_agg ht hs hn fun j hj => by
  rw [zq34, Nat.zero_add, hb.cell, List.getElem?_eq_getElem hj]
theorem zuh_ {P : Program} {t : TypeId} (ht : agg P t) (hs : szOf P t 2) {F : Nat → Prop} {w : World} {X : Option Addr} {rs : List RuleL} (hx : RulesF F w X rs) {j : Nat} (hj : j < rs.length) {k : Value → Prop}
    (hk : ∀ v, RuleV F w v (rul rs j) → k v) : Rd P (WS.at w) (zd_ t (.pointer (some ((ad X).add (j * 2))))) k := by
  obtain ⟨Y, c, h1, h2, h3, h4⟩ := hx.row j hj
  rw [ld_agg ht hs (cs := [.int .i64 (rul rs j).1, .slice Y (rul rs j).2.length c]) rfl]
  · exact hk _ ⟨Y, c, rfl, h3, h4⟩
  · intro i hi
    match i, hi with
    | 0, _ => rw [zkc_, Nat.add_zero]; exact h1
    | 1, _ => rw [zkc_]; exact h2
theorem zif_ {w : World} {B B' e e' sz sz' n n' c c' : Nat} {X Y : Option Addr} {cs cs' : List Value} (h : Row w B e sz X n c cs) (h' : Row w B' e' sz' Y n' c' cs') (he : e ≠ e') : blk X = none ∨ blk X ≠ blk Y := by
  rcases h.2 with h2 | ⟨q, cap, cur, e1, e2, e3, e4⟩
  · obtain ⟨rfl, _, _⟩ : X = none ∧ n = 0 ∧ c = 0 := by simpa using h2.1
    exact .inl rfl
  · obtain ⟨rfl, _, _⟩ : X = some ⟨q, 0, none⟩ ∧ n = n ∧ c = cap := by simpa using e1
    refine .inr fun hq => ?_
    rcases h'.2 with h2 | ⟨q', cap', cur', e1', e2', e3', e4'⟩
    · obtain ⟨rfl, _, _⟩ : Y = none ∧ n' = 0 ∧ c' = 0 := by simpa using h2.1
      cases hq
    · obtain ⟨rfl, _, _⟩ : Y = some ⟨q', 0, none⟩ ∧ n' = n' ∧ c' = cap' := by simpa using e1'
      have : q = q' := by simpa [blk] using hq
      subst this
      rw [e3] at e3'
      simp at e3'
      exact he e3'.2
section
variable {P : Program} {k : Value → World → Prop} {w : World}
theorem zwm_ {g j B e sz n c : Nat} : ∀ (vs : List Value) (i : Nat) (cells : List Value) (w : World), Row w B e sz (some ⟨g, 0, none⟩) n c cells → j + i + vs.length ≤ n * sz → (∀ v ∈ vs, v.oneCell' = true) →
    ∃ w', (storeCells (⟨g, j, none⟩ : Addr) vs i).run P w = .ok () w' ∧ w.grownBy w' (some g) ∧ Row w' B e sz (some ⟨g, 0, none⟩) n c (cells.take (j + i) ++ vs ++ cells.drop (j + i + vs.length)) ∧ w'.heap.size = w.heap.size := by
  intro vs
  induction vs with
  | nil =>
    intro i cells w hb _ _
    refine ⟨w, by simp [storeCells], zbe_ (Gr.refl w) _, ?_, rfl⟩
    simpa using hb
  | cons v vs ih =>
    intro i cells w hO hl h1
    have hlt : j + i < n * sz := by simp at hl; omega
    have hlen := hO.len
    have hst := World.ownsRow.stored hO (j + i) v
    have hcell : w.cell? ⟨g, j + i, none⟩ = cells[j + i]? := World.ownsRow.cellAt hO (j + i) hlt
    have hc : w.cell? ⟨g, j + i, none⟩ = some (cells[j + i]'(by omega)) := by rw [hcell, List.getElem?_eq_getElem (by omega)]
    have hf : w.frozen? ⟨g, j + i, none⟩ = false := by
      rcases hO.2 with ⟨h', _⟩ | ⟨g', cap', cur, h', _, hg', _⟩
      · simp at h'
      · simp only [Value.slice.injEq, Option.some.injEq, Addr.mk.injEq] at h'
        simp only [World.frozen?]
        rw [h'.1.1, hg']
        simp
    obtain ⟨w', hr, hg', hb'', hsz⟩ := ih (i + 1) (cells.set (j + i) v) _ hst.1 (by simp at hl ⊢; omega) (fun u hu => h1 u (List.mem_cons_of_mem _ hu))
    refine ⟨w', ?_, zch_ hst.2 hg', ?_, by rw [hsz]; simp [World.setCell]⟩
    · have hv := h1 v (List.mem_cons_self ..)
      have hstore : (store (⟨g, j + i, none⟩ : Addr) v).run P w = .ok () (w.setCell ⟨g, j + i, none⟩ v) := by
        unfold store
        cases v <;> first | (simp [Value.oneCell'] at hv; done) | simp [Sem.run, hc, hf]
      simp only [storeCells, Sem.run_bind, zq34]
      rw [hstore]
      exact hr
    · have e : cells.take (j + i) ++ v :: vs ++ cells.drop (j + i + (v :: vs).length) = (cells.set (j + i) v).take (j + (i + 1)) ++ vs ++ (cells.set (j + i) v).drop (j + (i + 1) + vs.length) := by
        rw [show j + (i + 1) = j + i + 1 from by omega, List.take_succ_eq_append_getElem (by simp; omega), List.drop_set_of_lt (by omega), List.take_set_of_le (Nat.le_refl _)]
        simp only [List.getElem_set_self, List.length_cons, List.append_assoc, List.cons_append, List.nil_append]
        rw [show j + i + 1 + vs.length = j + i + (vs.length + 1) from by omega]
      rw [e]
      exact hb''
end
structure OwnR (e1 e2 : Nat) (w : World) (B : Nat) (X : Option Addr) (c : Nat) (rs : List RuleL) (ps : Nat → Option Addr × Nat) : Prop where
  row : ∃ cells, Row w B e1 2 X rs.length c cells ∧ ∀ j, j < rs.length → cells[j * 2]? = some (.int .i64 (rul rs j).1) ∧ cells[j * 2 + 1]? = some (.slice (ps j).1 (rul rs j).2.length (ps j).2)
  own : ∀ j, j < rs.length → Own e2 w B (ps j).1 (ps j).2 (rul rs j).2
  two : ∀ i j, i < rs.length → j < rs.length → i ≠ j → blk (ps i).1 = none ∨ blk (ps i).1 ≠ blk (ps j).1
theorem OwnR.gx {D : Nat → Prop} {e1 e2 : Nat} {w w' : World} {B : Nat} {X : Option Addr} {c : Nat} {rs : List RuleL} {ps : Nat → Option Addr × Nat} (h : OwnR e1 e2 w B X c rs ps) (g : Gx D w w') (hn : ∀ b, B ≤ b → b < w.heap.size → ¬ D b) : OwnR e1 e2 w' B X c rs ps := by
  obtain ⟨⟨cells, hr, hc⟩, ho, ht⟩ := h
  exact ⟨⟨cells, hr.gx g fun q hq => hn q (hr.ge hq).1 (hr.ge hq).2, hc⟩, fun j hj => (ho j hj).gx g fun q hq => hn q ((ho j hj).ge hq).1 ((ho j hj).ge hq).2, ht⟩
theorem OwnR.gr {e1 e2 : Nat} {w w' : World} {B : Nat} {X : Option Addr} {c : Nat} {rs : List RuleL} {ps : Nat → Option Addr × Nat} (h : OwnR e1 e2 w B X c rs ps) (g : Gr w w') : OwnR e1 e2 w' B X c rs ps :=
  h.gx (zxf_ g fun _ => False) fun _ _ _ h => h
theorem OwnR.mono {e1 e2 : Nat} {w : World} {B B' : Nat} {X : Option Addr} {c : Nat} {rs : List RuleL} {ps : Nat → Option Addr × Nat} (h : OwnR e1 e2 w B X c rs ps) (hb : B' ≤ B) : OwnR e1 e2 w B' X c rs ps := by
  obtain ⟨⟨cells, hr, hc⟩, ho, ht⟩ := h
  exact ⟨⟨cells, Row.mono hr hb, hc⟩, fun j hj => Row.mono (ho j hj) hb, ht⟩
theorem own_foot {e : Nat} {w : World} {B c : Nat} {X : Option Addr} {xs : List Int} (h : Own e w B X c xs) : IntsF (fun b => B ≤ b ∧ b < w.heap.size) w X xs :=
  ⟨Own.ints h, fun hp => by
    have hq : X = some (ad X) := Row.ptr h hp
    exact Row.ge h (q := (ad X).block) (by rw [hq]; rfl)⟩
theorem OwnR.read {e1 e2 : Nat} {w : World} {B : Nat} {X : Option Addr} {c : Nat} {rs : List RuleL} {ps : Nat → Option Addr × Nat} (h : OwnR e1 e2 w B X c rs ps) : RulesF (fun b => B ≤ b ∧ b < w.heap.size) w X rs := by
  obtain ⟨⟨cells, hr, hc⟩, ho, ht⟩ := h
  have hcap := hr.cap
  refine ⟨by omega, fun hp => hr.ptr hp, fun hp => ?_, fun j hj => ?_⟩
  · have hq : X = some (ad X) := hr.ptr hp
    exact hr.ge (q := (ad X).block) (by rw [hq]; rfl)
  · have hs := hr.src
    obtain ⟨h1, h2⟩ := hc j hj
    have hc' := Row.cap (ho j hj)
    exact ⟨(ps j).1, (ps j).2, hs.cell _ _ h1, hs.cell _ _ h2, by omega, own_foot (ho j hj)⟩
theorem zvh_ {rs : List RuleL} {r : RuleL} {i j : Nat} (hj : j < rs.length) : rul (rs.set j r) i = if i = j then r else rul rs i := by
  simp only [rul, List.getD_eq_getElem?_getD, List.getElem?_set]
  by_cases h : i = j
  · subst h
    simp [hj]
  · rw [if_neg (fun e => h e.symm), if_neg h]
theorem Box.ne {w : World} {b b' t : Nat} {cs : List Value} (h : Box w b cs t) (hb : w.heap.size ≤ b') : b' ≠ b := by
  have := h.lt
  omega
theorem Box.put {w w' : World} {b b' t : Nat} {cs : List Value} (h : Box w b cs t) (g : w.grownBy w' (some b')) (hn : b' ≠ b) : Box w' b cs t := h.kept g (by simpa using hn)
theorem zyf_ {a b c : World} {q : Nat} (h : Gr a b) (g : b.grownBy c (some q)) (hq : a.heap.size ≤ q) : Gr a c := gr_mod h g fun x hx => by
  cases hx
  exact hq
section
variable {P : Program} {k : Value → World → Prop} {w : World}
theorem zke_ {t sz by' : Nat} {z : Value} (H : Inf P t z sz by') (h : ∀ b w', Gr w w' → w.heap.size ≤ b → Box w' b z.cells.toList t → k (.pointer (some ⟨b, 0, none⟩)) w') : Do P (zkb_ t) k w := by
  obtain ⟨i, a, b, _, _⟩ := H
  exact do_alloc a b h
end
end Go.Sh

namespace Go.Proofs.Yteabbgaffgpegaa
open Go Go.Sh

def pl45 : Plans := fun _ => ⟨false, [], .nil⟩
def S45 (v0 v1 v2 : Value) (k : Value → World → Prop) (w : World) : Prop :=
 Do Try.prog (sBox 3 v1) (fun t1 w2 =>
 Do Try.prog (sBox 3 v2) (fun t3 w4 =>
 Rd Try.prog (WS.at w4) (zyd_ (.func 102) [] [t1, t3]) fun t5 =>
 CallK Try.prog 101 [v0, t5] (fun t6 w7 =>
 Rd Try.prog (WS.at w7) (sUn .not t6) fun t8 =>
 k t8 w7) w4) w2) w
theorem body45 : Try.f45.body = some (zi_ Try.f45) := by kernel_rfl
theorem same45 (v0 v1 v2 : Value) (k : Value → World → Prop) (w : World) : wpF Try.prog pl45 (zi_ Try.f45) (zv_ Try.prog Try.f45.results.toList k) (zr_ [v0, v1, v2]) w = S45 v0 v1 v2 k w := by kernel_rfl
theorem enter45 {v0 v1 v2 : Value} {k : Value → World → Prop} {w : World} (h : S45 v0 v1 v2 k w) : CallK Try.prog 45 [v0, v1, v2] k w :=
  zk_ (pl := pl45) zdb_ Try.func45 body45 (by kernel_rfl) (of_decide_eq_true (by kernel_rfl)) (by kernel_rfl) (by kernel_rfl) (Eq.mpr (same45 v0 v1 v2 k w) h)

def pl102 : Plans := fun _ => ⟨false, [], .nil⟩
def S102 (v0 v1 v2 : Value) (k : Value → World → Prop) (w : World) : Prop :=
 Rd Try.prog (WS.at w) (zd_ 3 v1) fun t1 =>
 Rd Try.prog (WS.at w) (zd_ 3 v2) fun t2 =>
 CallK Try.prog 103 [v0, t1, t2] (fun t3 w4 =>
 Rd Try.prog (WS.at w4) (sUn .not t3) fun t5 =>
 k t5 w4) w
theorem body102 : Try.f102.body = some (zi_ Try.f102) := by kernel_rfl
theorem same102 (v0 v1 v2 : Value) (k : Value → World → Prop) (w : World) : wpF Try.prog pl102 (zi_ Try.f102) (zv_ Try.prog Try.f102.results.toList k) (zr_ [v0, v1, v2]) w = S102 v0 v1 v2 k w := by kernel_rfl
theorem enter102 {v0 v1 v2 : Value} {k : Value → World → Prop} {w : World} (h : S102 v0 v1 v2 k w) : CallK Try.prog 102 [v0, v1, v2] k w :=
  zk_ (pl := pl102) zdb_ Try.func102 body102 (by kernel_rfl) (of_decide_eq_true (by kernel_rfl)) (by kernel_rfl) (by kernel_rfl) (Eq.mpr (same102 v0 v1 v2 k w) h)

def pl44 : Plans := fun _ => ⟨false, [], .nil⟩
def S44 (v0 : Value) (k : Value → World → Prop) (w : World) : Prop :=
 Do Try.prog (sBox 26 v0) (fun t1 w2 =>
 Rd Try.prog (WS.at w2) (za_ 26 t1 0) fun t3 =>
 Rd Try.prog (WS.at w2) (zd_ 3 t3) fun t4 =>
 CallK Try.prog 65 [t4, (.int .i64 1), (.int .i64 6)] (fun t5 w6 =>
 Rd Try.prog (WS.at w6) (sUn .not t5) fun t7 =>
 zb_ t7 false (fun k w' => Rd Try.prog (WS.at w6) (za_ 26 t1 1) fun v => k v w') (fun t8 w9 =>
 zb_ t7 false (fun k w' => Rd Try.prog (WS.at w9) (zd_ 3 t8) fun v => k v w') (fun t10 w11 =>
 zb_ t7 false (fun k w' => CallK Try.prog 65 [t10, (.int .i64 1), (.int .i64 4)] k w') (fun t12 w13 =>
 zb_ t7 false (fun k w' => Rd Try.prog (WS.at w13) (sUn .not t12) fun v => k v w') (fun t14 w15 =>
 Rd Try.prog (WS.at w15) (zcb_ t7 (.bool true) t14) fun t16 =>
 zb_ t16 false (fun k w' => Rd Try.prog (WS.at w15) (za_ 26 t1 2) fun v => k v w') (fun t17 w18 =>
 zb_ t16 false (fun k w' => Rd Try.prog (WS.at w18) (zd_ 24 t17) fun v => k v w') (fun t19 w20 =>
 zb_ t16 false (fun k w' => Rd Try.prog (WS.at w20) (zc_ .len #[24] 3 [false] [t19]) fun v => k v w') (fun t21 w22 =>
 zb_ t16 false (fun k w' => Rd Try.prog (WS.at w22) (sBin .gtr 3 true t21 (.int .i64 16)) fun v => k v w') (fun t23 w24 =>
 Rd Try.prog (WS.at w24) (zcb_ t16 (.bool true) t23) fun t25 =>
 zm_ t25
  (k (.bool false) w24)
  (Rd Try.prog (WS.at w24) (za_ 26 t1 2) fun t26 =>
  Rd Try.prog (WS.at w24) (zd_ 24 t26) fun t27 =>
  Rd Try.prog (WS.at w24) (zc_ .len #[24] 3 [false] [t27]) fun t28 =>
  zrb_ [25, 26, 27, 28, 4, 3, 29, 30, 31, 32, 33, 34, 35, 36, 37, 38, 39, 40, 41, 42, 43, 44, 45, 46, 47, 48, 49, 50, 51, 2, 52, 53, 54, 55, 56, 57, 2, 58, 24] (fun Q29 f30 w31 =>
   Rd Try.prog (WS.at w31) (sBin .lss 3 false (f30 24) (f30 23)) fun t32 =>
   zm_ t32
    (Rd Try.prog (WS.at w31) (zf_ 24 (f30 22) (f30 24)) fun t33 =>
    Rd Try.prog (WS.at w31) (zd_ 106 t33) fun t34 =>
    Do Try.prog (zkb_ 106) (fun t35 w36 =>
    Do Try.prog (zab_ 106 t35 t34) (fun _ w37 =>
    Rd Try.prog (WS.at w37) (za_ 106 t35 0) fun t38 =>
    Rd Try.prog (WS.at w37) (zd_ 3 t38) fun t39 =>
    Rd Try.prog (WS.at w37) (za_ 26 (f30 1) 0) fun t40 =>
    Rd Try.prog (WS.at w37) (zd_ 3 t40) fun t41 =>
    Rd Try.prog (WS.at w37) (sBin .sub 3 true t41 (.int .i64 1)) fun t42 =>
    CallK Try.prog 65 [t39, (.int .i64 0), t42] (fun t43 w44 =>
    Rd Try.prog (WS.at w44) (sUn .not t43) fun t45 =>
    zb_ t45 false (fun k w' => Rd Try.prog (WS.at w44) (za_ 106 t35 1) fun v => k v w') (fun t46 w47 =>
    zb_ t45 false (fun k w' => Rd Try.prog (WS.at w47) (zd_ 27 t46) fun v => k v w') (fun t48 w49 =>
    zb_ t45 false (fun k w' => Rd Try.prog (WS.at w49) (zc_ .len #[27] 3 [false] [t48]) fun v => k v w') (fun t50 w51 =>
    zb_ t45 false (fun k w' => Rd Try.prog (WS.at w51) (sBin .gtr 3 true t50 (.int .i64 4)) fun v => k v w') (fun t52 w53 =>
    Rd Try.prog (WS.at w53) (zcb_ t45 (.bool true) t52) fun t54 =>
    zb_ t54 false (fun k w' => Rd Try.prog (WS.at w53) (za_ 106 t35 1) fun v => k v w') (fun t55 w56 =>
    zb_ t54 false (fun k w' => Rd Try.prog (WS.at w56) (zd_ 27 t55) fun v => k v w') (fun t57 w58 =>
    zb_ t54 false (fun k w' => Rd Try.prog (WS.at w58) (za_ 26 (f30 1) 0) fun v => k v w') (fun t59 w60 =>
    zb_ t54 false (fun k w' => Rd Try.prog (WS.at w60) (zd_ 3 t59) fun v => k v w') (fun t61 w62 =>
    zb_ t54 false (fun k w' => Rd Try.prog (WS.at w62) (za_ 26 (f30 1) 1) fun v => k v w') (fun t63 w64 =>
    zb_ t54 false (fun k w' => Rd Try.prog (WS.at w64) (zd_ 3 t63) fun v => k v w') (fun t65 w66 =>
    zb_ t54 false (fun k w' => CallK Try.prog 45 [t57, t61, t65] k w') (fun t67 w68 =>
    zb_ t54 false (fun k w' => Rd Try.prog (WS.at w68) (sUn .not t67) fun v => k v w') (fun t69 w70 =>
    Rd Try.prog (WS.at w70) (zcb_ t54 (.bool true) t69) fun t71 =>
    zm_ t71
     (Q29 .ret (F.upd (F.upd (F.upd (F.upd (F.upd (F.upd (F.upd (F.upd (F.upd (F.upd (F.upd (F.upd (F.upd (F.upd (F.upd (F.upd (F.upd (F.upd (F.upd (F.upd (F.upd (F.upd (F.upd (F.upd (F.upd (F.upd (F.upd (F.upd (F.upd (F.upd f30 25 t32) 26 (f30 24)) 27 t33) 28 t34) 4 t35) 3 (f30 24)) 29 t38) 30 t39) 31 t40) 32 t41) 33 t42) 34 t43) 35 t45) 36 t45) 37 t46) 38 t48) 39 t50) 40 t52) 41 t54) 42 t54) 43 t55) 44 t57) 45 t59) 46 t61) 47 t63) 48 t65) 49 t67) 50 t69) 51 t71) 2 (.bool false)) w70)
     (Rd Try.prog (WS.at w70) (za_ 26 (f30 1) 2) fun t72 =>
     Rd Try.prog (WS.at w70) (zd_ 24 t72) fun t73 =>
     Rd Try.prog (WS.at w70) (zbb_ 24 t73 none (some (f30 24)) none) fun t74 =>
     Rd Try.prog (WS.at w70) (zyd_ (.func 99) [] [t35]) fun t75 =>
     CallK Try.prog 98 [t74, t75] (fun t76 w77 =>
     zm_ t76
      (Q29 .ret (F.upd (F.upd (F.upd (F.upd (F.upd (F.upd (F.upd (F.upd (F.upd (F.upd (F.upd (F.upd (F.upd (F.upd (F.upd (F.upd (F.upd (F.upd (F.upd (F.upd (F.upd (F.upd (F.upd (F.upd (F.upd (F.upd (F.upd (F.upd (F.upd (F.upd (F.upd (F.upd (F.upd (F.upd (F.upd (F.upd f30 25 t32) 26 (f30 24)) 27 t33) 28 t34) 4 t35) 3 (f30 24)) 29 t38) 30 t39) 31 t40) 32 t41) 33 t42) 34 t43) 35 t45) 36 t45) 37 t46) 38 t48) 39 t50) 40 t52) 41 t54) 42 t54) 43 t55) 44 t57) 45 t59) 46 t61) 47 t63) 48 t65) 49 t67) 50 t69) 51 t71) 52 t72) 53 t73) 54 (f30 24)) 55 t74) 56 t75) 57 t76) 2 (.bool false)) w77)
      (Rd Try.prog (WS.at w77) (sBin .add 3 true (f30 24) (.int .i64 1)) fun t78 =>
      Q29 .normal (F.upd (F.upd (F.upd (F.upd (F.upd (F.upd (F.upd (F.upd (F.upd (F.upd (F.upd (F.upd (F.upd (F.upd (F.upd (F.upd (F.upd (F.upd (F.upd (F.upd (F.upd (F.upd (F.upd (F.upd (F.upd (F.upd (F.upd (F.upd (F.upd (F.upd (F.upd (F.upd (F.upd (F.upd (F.upd (F.upd (F.upd f30 25 t32) 26 (f30 24)) 27 t33) 28 t34) 4 t35) 3 (f30 24)) 29 t38) 30 t39) 31 t40) 32 t41) 33 t42) 34 t43) 35 t45) 36 t45) 37 t46) 38 t48) 39 t50) 40 t52) 41 t54) 42 t54) 43 t55) 44 t57) 45 t59) 46 t61) 47 t63) 48 t65) 49 t67) 50 t69) 51 t71) 52 t72) 53 t73) 54 (f30 24)) 55 t74) 56 t75) 57 t76) 58 t78) 24 t78) w77)) w70)) w68) w66) w64) w62) w60) w58) w56) w53) w51) w49) w47) w44) w37) w36) w31)
    (Q29 (.exit 0) (F.upd f30 25 t32) w31))
   (zgb_ 0 (seqQ (fun f79 w80 =>
  k (.bool true) w80) (zv_ Try.prog [.tmp 2] k)))
   (F.upd (F.upd (F.upd (F.upd (F.upd (F.upd (F.upd (F.upd (F.upd (F.upd (F.upd (F.upd (F.upd (F.upd (F.upd (F.upd (F.upd (F.upd (F.upd (F.upd (F.upd (F.upd (zr_ [v0]) 1 t1) 2 (.bool false)) 5 t3) 6 t4) 7 t5) 8 t7) 9 t7) 10 t8) 11 t10) 12 t12) 13 t14) 14 t16) 15 t16) 16 t17) 17 t19) 18 t21) 19 t23) 20 t25) 21 t26) 22 t27) 23 t28) 24 (.int .i64 0)) w24)) w22) w20) w18) w15) w13) w11) w9) w6) w2) w
theorem body44 : Try.f44.body = some (zi_ Try.f44) := by kernel_rfl
theorem same44 (v0 : Value) (k : Value → World → Prop) (w : World) : wpF Try.prog pl44 (zi_ Try.f44) (zv_ Try.prog Try.f44.results.toList k) (zr_ [v0]) w = S44 v0 k w := by kernel_rfl
theorem enter44 {v0 : Value} {k : Value → World → Prop} {w : World} (h : S44 v0 k w) : CallK Try.prog 44 [v0] k w :=
  zk_ (pl := pl44) zdb_ Try.func44 body44 (by kernel_rfl) (of_decide_eq_true (by kernel_rfl)) (by kernel_rfl) (by kernel_rfl) (Eq.mpr (same44 v0 k w) h)

def pl99 : Plans := fun _ => ⟨false, [], .nil⟩
def S99 (v0 v1 : Value) (k : Value → World → Prop) (w : World) : Prop :=
 Do Try.prog (sBox 106 v0) (fun t1 w2 =>
 Rd Try.prog (WS.at w2) (zd_ 106 t1) fun t3 =>
 Rd Try.prog (WS.at w2) (zd_ 106 v1) fun t4 =>
 CallK Try.prog 100 [t3, t4] (fun t5 w6 =>
 k t5 w6) w2) w
theorem body99 : Try.f99.body = some (zi_ Try.f99) := by kernel_rfl
theorem same99 (v0 v1 : Value) (k : Value → World → Prop) (w : World) : wpF Try.prog pl99 (zi_ Try.f99) (zv_ Try.prog Try.f99.results.toList k) (zr_ [v0, v1]) w = S99 v0 v1 k w := by kernel_rfl
theorem enter99 {v0 v1 : Value} {k : Value → World → Prop} {w : World} (h : S99 v0 v1 k w) : CallK Try.prog 99 [v0, v1] k w :=
  zk_ (pl := pl99) zdb_ Try.func99 body99 (by kernel_rfl) (of_decide_eq_true (by kernel_rfl)) (by kernel_rfl) (by kernel_rfl) (Eq.mpr (same99 v0 v1 k w) h)

def pl103 : Plans := fun _ => ⟨false, [], .nil⟩
def S103 (v0 v1 v2 : Value) (k : Value → World → Prop) (w : World) : Prop :=
 Rd Try.prog (WS.at w) (sUn .neg v2) fun t1 =>
 Rd Try.prog (WS.at w) (sBin .sub 3 true v1 (.int .i64 1)) fun t2 =>
 CallK Try.prog 65 [v0, t1, t2] (fun t3 w4 =>
 k t3 w4) w
theorem body103 : Try.f103.body = some (zi_ Try.f103) := by kernel_rfl
theorem same103 (v0 v1 v2 : Value) (k : Value → World → Prop) (w : World) : wpF Try.prog pl103 (zi_ Try.f103) (zv_ Try.prog Try.f103.results.toList k) (zr_ [v0, v1, v2]) w = S103 v0 v1 v2 k w := by kernel_rfl
theorem enter103 {v0 v1 v2 : Value} {k : Value → World → Prop} {w : World} (h : S103 v0 v1 v2 k w) : CallK Try.prog 103 [v0, v1, v2] k w :=
  zk_ (pl := pl103) zdb_ Try.func103 body103 (by kernel_rfl) (of_decide_eq_true (by kernel_rfl)) (by kernel_rfl) (by kernel_rfl) (Eq.mpr (same103 v0 v1 v2 k w) h)

def pl100 : Plans := fun _ => ⟨false, [], .nil⟩
def S100 (v0 v1 : Value) (k : Value → World → Prop) (w : World) : Prop :=
 Do Try.prog (sBox 106 v0) (fun t1 w2 =>
 Do Try.prog (sBox 106 v1) (fun t3 w4 =>
 Rd Try.prog (WS.at w4) (za_ 106 t1 0) fun t5 =>
 Rd Try.prog (WS.at w4) (zd_ 3 t5) fun t6 =>
 Rd Try.prog (WS.at w4) (za_ 106 t3 0) fun t7 =>
 Rd Try.prog (WS.at w4) (zd_ 3 t7) fun t8 =>
 Rd Try.prog (WS.at w4) (sBin .eql 3 false t6 t8) fun t9 =>
 zb_ t9 true (fun k w' => Rd Try.prog (WS.at w4) (za_ 106 t1 1) fun v => k v w') (fun t10 w11 =>
 zb_ t9 true (fun k w' => Rd Try.prog (WS.at w11) (zd_ 27 t10) fun v => k v w') (fun t12 w13 =>
 zb_ t9 true (fun k w' => Rd Try.prog (WS.at w13) (za_ 106 t3 1) fun v => k v w') (fun t14 w15 =>
 zb_ t9 true (fun k w' => Rd Try.prog (WS.at w15) (zd_ 27 t14) fun v => k v w') (fun t16 w17 =>
 zb_ t9 true (fun k w' => CallK Try.prog 64 [t12, t16] k w') (fun t18 w19 =>
 Rd Try.prog (WS.at w19) (zcb_ t9 t18 (.bool false)) fun t20 =>
 k t20 w19) w17) w15) w13) w11) w4) w2) w
theorem body100 : Try.f100.body = some (zi_ Try.f100) := by kernel_rfl
theorem same100 (v0 v1 : Value) (k : Value → World → Prop) (w : World) : wpF Try.prog pl100 (zi_ Try.f100) (zv_ Try.prog Try.f100.results.toList k) (zr_ [v0, v1]) w = S100 v0 v1 k w := by kernel_rfl
theorem enter100 {v0 v1 : Value} {k : Value → World → Prop} {w : World} (h : S100 v0 v1 k w) : CallK Try.prog 100 [v0, v1] k w :=
  zk_ (pl := pl100) zdb_ Try.func100 body100 (by kernel_rfl) (of_decide_eq_true (by kernel_rfl)) (by kernel_rfl) (by kernel_rfl) (Eq.mpr (same100 v0 v1 k w) h)

def pl49 : Plans := fun _ => ⟨false, [], .nil⟩
def S49 (v0 : Value) (k : Value → World → Prop) (w : World) : Prop :=
 Do Try.prog (sBox 26 v0) (fun t1 w2 =>
 Rd Try.prog (WS.at w2) (za_ 26 t1 0) fun t3 =>
 Rd Try.prog (WS.at w2) (zd_ 3 t3) fun t4 =>
 CallK Try.prog 67 [t4, (.int .i64 1), (.int .i64 6)] (fun t5 w6 =>
 Rd Try.prog (WS.at w6) (sUn .not t5) fun t7 =>
 zb_ t7 false (fun k w' => Rd Try.prog (WS.at w6) (za_ 26 t1 1) fun v => k v w') (fun t8 w9 =>
 zb_ t7 false (fun k w' => Rd Try.prog (WS.at w9) (zd_ 3 t8) fun v => k v w') (fun t10 w11 =>
 zb_ t7 false (fun k w' => CallK Try.prog 67 [t10, (.int .i64 1), (.int .i64 4)] k w') (fun t12 w13 =>
 zb_ t7 false (fun k w' => Rd Try.prog (WS.at w13) (sUn .not t12) fun v => k v w') (fun t14 w15 =>
 Rd Try.prog (WS.at w15) (zcb_ t7 (.bool true) t14) fun t16 =>
 zb_ t16 false (fun k w' => Rd Try.prog (WS.at w15) (za_ 26 t1 2) fun v => k v w') (fun t17 w18 =>
 zb_ t16 false (fun k w' => Rd Try.prog (WS.at w18) (zd_ 24 t17) fun v => k v w') (fun t19 w20 =>
 zb_ t16 false (fun k w' => Rd Try.prog (WS.at w20) (zc_ .len #[24] 3 [false] [t19]) fun v => k v w') (fun t21 w22 =>
 zb_ t16 false (fun k w' => Rd Try.prog (WS.at w22) (sBin .gtr 3 true t21 (.int .i64 16)) fun v => k v w') (fun t23 w24 =>
 Rd Try.prog (WS.at w24) (zcb_ t16 (.bool true) t23) fun t25 =>
 zm_ t25
  (k (.bool false) w24)
  (Rd Try.prog (WS.at w24) (za_ 26 t1 2) fun t26 =>
  Rd Try.prog (WS.at w24) (zd_ 24 t26) fun t27 =>
  Rd Try.prog (WS.at w24) (zc_ .len #[24] 3 [false] [t27]) fun t28 =>
  zrb_ [29, 30, 31, 32, 4, 3, 33, 34, 35, 36, 37, 38, 39, 40, 41, 42, 43, 44, 45, 2, 46, 47, 48, 49, 50, 51, 52, 6, 53, 54, 55, 56, 2, 57, 49, 58, 59, 60, 61, 62, 63, 64, 65, 66, 8, 67, 68, 69, 2, 70, 63, 71, 28] (fun Q29 f30 w31 =>
   Rd Try.prog (WS.at w31) (sBin .lss 3 false (f30 28) (f30 27)) fun t32 =>
   zm_ t32
    (Rd Try.prog (WS.at w31) (zf_ 24 (f30 26) (f30 28)) fun t33 =>
    Rd Try.prog (WS.at w31) (zd_ 106 t33) fun t34 =>
    Do Try.prog (zkb_ 106) (fun t35 w36 =>
    Do Try.prog (zab_ 106 t35 t34) (fun _ w37 =>
    Rd Try.prog (WS.at w37) (za_ 106 t35 0) fun t38 =>
    Rd Try.prog (WS.at w37) (zd_ 3 t38) fun t39 =>
    Rd Try.prog (WS.at w37) (za_ 26 (f30 1) 0) fun t40 =>
    Rd Try.prog (WS.at w37) (zd_ 3 t40) fun t41 =>
    Rd Try.prog (WS.at w37) (sBin .sub 3 true t41 (.int .i64 1)) fun t42 =>
    CallK Try.prog 67 [t39, (.int .i64 0), t42] (fun t43 w44 =>
    Rd Try.prog (WS.at w44) (sUn .not t43) fun t45 =>
    zb_ t45 false (fun k w' => Rd Try.prog (WS.at w44) (za_ 106 t35 1) fun v => k v w') (fun t46 w47 =>
    zb_ t45 false (fun k w' => Rd Try.prog (WS.at w47) (zd_ 27 t46) fun v => k v w') (fun t48 w49 =>
    zb_ t45 false (fun k w' => Rd Try.prog (WS.at w49) (zc_ .len #[27] 3 [false] [t48]) fun v => k v w') (fun t50 w51 =>
    zb_ t45 false (fun k w' => Rd Try.prog (WS.at w51) (sBin .gtr 3 true t50 (.int .i64 4)) fun v => k v w') (fun t52 w53 =>
    Rd Try.prog (WS.at w53) (zcb_ t45 (.bool true) t52) fun t54 =>
    zm_ t54
     (Q29 .ret (F.upd (F.upd (F.upd (F.upd (F.upd (F.upd (F.upd (F.upd (F.upd (F.upd (F.upd (F.upd (F.upd (F.upd (F.upd (F.upd (F.upd (F.upd (F.upd (F.upd f30 29 t32) 30 (f30 28)) 31 t33) 32 t34) 4 t35) 3 (f30 28)) 33 t38) 34 t39) 35 t40) 36 t41) 37 t42) 38 t43) 39 t45) 40 t45) 41 t46) 42 t48) 43 t50) 44 t52) 45 t54) 2 (.bool false)) w53)
     (Rd Try.prog (WS.at w53) (za_ 106 t35 1) fun t55 =>
     Rd Try.prog (WS.at w53) (zd_ 27 t55) fun t56 =>
     Rd Try.prog (WS.at w53) (zc_ .len #[27] 3 [false] [t56]) fun t57 =>
     zrb_ [50, 51, 52, 6, 53, 54, 55, 56, 2, 57, 49] (fun Q58 f59 w60 =>
      Rd Try.prog (WS.at w60) (sBin .lss 3 false (f59 49) (f59 48)) fun t61 =>
      zm_ t61
       (Rd Try.prog (WS.at w60) (zf_ 27 (f59 47) (f59 49)) fun t62 =>
       Rd Try.prog (WS.at w60) (zd_ 3 t62) fun t63 =>
       Rd Try.prog (WS.at w60) (zd_ 26 (f59 1)) fun t64 =>
       CallK Try.prog 108 [t64, t63] (fun t65 w66 =>
       Rd Try.prog (WS.at w66) (sUn .not t65) fun t67 =>
       zm_ t67
        (Q58 .ret (F.upd (F.upd (F.upd (F.upd (F.upd (F.upd (F.upd (F.upd (F.upd f59 50 t61) 51 t62) 52 t63) 6 t63) 53 t64) 54 t63) 55 t65) 56 t67) 2 (.bool false)) w66)
        (Rd Try.prog (WS.at w66) (sBin .add 3 true (f59 49) (.int .i64 1)) fun t68 =>
        Q58 .normal (F.upd (F.upd (F.upd (F.upd (F.upd (F.upd (F.upd (F.upd (F.upd (F.upd f59 50 t61) 51 t62) 52 t63) 6 t63) 53 t64) 54 t63) 55 t65) 56 t67) 57 t68) 49 t68) w66)) w60)
       (Q58 (.exit 2) (F.upd f59 50 t61) w60))
      (zgb_ 2 (seqQ (fun f69 w70 =>
     Rd Try.prog (WS.at w70) (za_ 26 (f69 1) 2) fun t71 =>
     Rd Try.prog (WS.at w70) (zd_ 24 t71) fun t72 =>
     Rd Try.prog (WS.at w70) (zbb_ 24 t72 none (some (f69 3)) none) fun t73 =>
     Rd Try.prog (WS.at w70) (zc_ .len #[24] 3 [false] [t73]) fun t74 =>
     zrb_ [64, 65, 66, 8, 67, 68, 69, 2, 70, 63] (fun Q75 f76 w77 =>
      Rd Try.prog (WS.at w77) (sBin .lss 3 false (f76 63) (f76 62)) fun t78 =>
      zm_ t78
       (Rd Try.prog (WS.at w77) (zf_ 24 (f76 61) (f76 63)) fun t79 =>
       Rd Try.prog (WS.at w77) (zd_ 106 t79) fun t80 =>
       Do Try.prog (zkb_ 106) (fun t81 w82 =>
       Do Try.prog (zab_ 106 t81 t80) (fun _ w83 =>
       Rd Try.prog (WS.at w83) (zd_ 106 (f76 4)) fun t84 =>
       Rd Try.prog (WS.at w83) (zd_ 106 t81) fun t85 =>
       CallK Try.prog 109 [t84, t85] (fun t86 w87 =>
       zm_ t86
        (Q75 .ret (F.upd (F.upd (F.upd (F.upd (F.upd (F.upd (F.upd (F.upd f76 64 t78) 65 t79) 66 t80) 8 t81) 67 t84) 68 t85) 69 t86) 2 (.bool false)) w87)
        (Rd Try.prog (WS.at w87) (sBin .add 3 true (f76 63) (.int .i64 1)) fun t88 =>
        Q75 .normal (F.upd (F.upd (F.upd (F.upd (F.upd (F.upd (F.upd (F.upd (F.upd f76 64 t78) 65 t79) 66 t80) 8 t81) 67 t84) 68 t85) 69 t86) 70 t88) 63 t88) w87)) w83) w82) w77)
       (Q75 (.exit 4) (F.upd f76 64 t78) w77))
      (zgb_ 4 (zgb_ 1 (seqQ (fun f89 w90 =>
     Rd Try.prog (WS.at w90) (sBin .add 3 true (f89 28) (.int .i64 1)) fun t91 =>
     Q29 .normal (F.upd (F.upd f89 71 t91) 28 t91) w90) Q29)))
      (F.upd (F.upd (F.upd (F.upd (F.upd (F.upd f69 58 t71) 59 t72) 60 (f69 3)) 61 t73) 62 t74) 63 (.int .i64 0)) w70) (zgb_ 1 (seqQ (fun f92 w93 =>
     Rd Try.prog (WS.at w93) (sBin .add 3 true (f92 28) (.int .i64 1)) fun t94 =>
     Q29 .normal (F.upd (F.upd f92 71 t94) 28 t94) w93) Q29))))
      (F.upd (F.upd (F.upd (F.upd (F.upd (F.upd (F.upd (F.upd (F.upd (F.upd (F.upd (F.upd (F.upd (F.upd (F.upd (F.upd (F.upd (F.upd (F.upd (F.upd (F.upd (F.upd (F.upd f30 29 t32) 30 (f30 28)) 31 t33) 32 t34) 4 t35) 3 (f30 28)) 33 t38) 34 t39) 35 t40) 36 t41) 37 t42) 38 t43) 39 t45) 40 t45) 41 t46) 42 t48) 43 t50) 44 t52) 45 t54) 46 t55) 47 t56) 48 t57) 49 (.int .i64 0)) w53)) w51) w49) w47) w44) w37) w36) w31)
    (Q29 (.exit 0) (F.upd f30 29 t32) w31))
   (zgb_ 0 (seqQ (fun f95 w96 =>
  k (.bool true) w96) (zv_ Try.prog [.tmp 2] k)))
   (F.upd (F.upd (F.upd (F.upd (F.upd (F.upd (F.upd (F.upd (F.upd (F.upd (F.upd (F.upd (F.upd (F.upd (F.upd (F.upd (F.upd (F.upd (F.upd (F.upd (F.upd (F.upd (zr_ [v0]) 1 t1) 2 (.bool false)) 9 t3) 10 t4) 11 t5) 12 t7) 13 t7) 14 t8) 15 t10) 16 t12) 17 t14) 18 t16) 19 t16) 20 t17) 21 t19) 22 t21) 23 t23) 24 t25) 25 t26) 26 t27) 27 t28) 28 (.int .i64 0)) w24)) w22) w20) w18) w15) w13) w11) w9) w6) w2) w
theorem body49 : Try.f49.body = some (zi_ Try.f49) := by kernel_rfl
theorem same49 (v0 : Value) (k : Value → World → Prop) (w : World) : wpF Try.prog pl49 (zi_ Try.f49) (zv_ Try.prog Try.f49.results.toList k) (zr_ [v0]) w = S49 v0 k w := by kernel_rfl
theorem enter49 {v0 : Value} {k : Value → World → Prop} {w : World} (h : S49 v0 k w) : CallK Try.prog 49 [v0] k w :=
  zk_ (pl := pl49) zdb_ Try.func49 body49 (by kernel_rfl) (of_decide_eq_true (by kernel_rfl)) (by kernel_rfl) (by kernel_rfl) (Eq.mpr (same49 v0 k w) h)

def pl147 : Plans := fun i => match i with
  | 6 => ⟨false, [], .step 0 .any (.step 1 .any (.step 2 .any (.step 3 .held (.step 4 .any (.step 5 .any (.step 6 .any (.step 7 .held (.step 8 .any (.nil)))))))))⟩
  | _ => ⟨false, [], .nil⟩
def S147 (v0 v1 : Value) (k : Value → World → Prop) (w : World) : Prop :=
 Rd Try.prog (WS.at w) (zc_ .len #[27] 3 [false] [v0]) fun t1 =>
 Rd Try.prog (WS.at w) (zc_ .len #[27] 3 [false] [v1]) fun t2 =>
 Rd Try.prog (WS.at w) (sBin .neq 3 false t1 t2) fun t3 =>
 zm_ t3
  (k (.bool false) w)
  (Rd Try.prog (WS.at w) (zc_ .len #[27] 3 [false] [v0]) fun t4 =>
  zrb_ [14, 15, 5, 16, 17, 18, 19, 20, 21, 22, 23, 24, 4, 25, 13] (fun Q5 f6 w7 =>
   Rd Try.prog (WS.at w7) (sBin .lss 3 false (f6 13) (f6 12)) fun t8 =>
   zm_ t8
    (Rd Try.prog WS.any (zf_ 27 (f6 0) (f6 13)) fun t9 =>
    Rd Try.prog (WS.at w7.drew) (zd_ 3 t9) fun t10 =>
    Rd Try.prog WS.any (zf_ 27 (f6 1) (f6 13)) fun t11 =>
    Rd Try.prog (WS.at w7.drew) (zd_ 3 t11) fun t12 =>
    Rd Try.prog WS.any (sBin .neq 3 false t10 t12) fun t13 =>
    zm_ t13
     (Q5 .ret (F.upd (F.upd (F.upd (F.upd (F.upd (F.upd (F.upd (F.upd (F.upd (F.upd (F.upd (F.upd (F.upd f6 14 t8) 15 (f6 13)) 5 (f6 13)) 16 (f6 0)) 17 (f6 13)) 18 t9) 19 t10) 20 (f6 1)) 21 (f6 13)) 22 t11) 23 t12) 24 t13) 4 (.bool false)) w7.drew)
     (Rd Try.prog (WS.at w7.drew) (sBin .add 3 true (f6 13) (.int .i64 1)) fun t14 =>
     Q5 .normal (F.upd (F.upd (F.upd (F.upd (F.upd (F.upd (F.upd (F.upd (F.upd (F.upd (F.upd (F.upd (F.upd (F.upd f6 14 t8) 15 (f6 13)) 5 (f6 13)) 16 (f6 0)) 17 (f6 13)) 18 t9) 19 t10) 20 (f6 1)) 21 (f6 13)) 22 t11) 23 t12) 24 t13) 25 t14) 13 t14) w7.drew))
    (Q5 (.exit 0) (F.upd f6 14 t8) w7))
   (zgb_ 0 (seqQ (fun f15 w16 =>
  k (.bool true) w16) (zv_ Try.prog [.tmp 4] k)))
   (F.upd (F.upd (F.upd (F.upd (F.upd (F.upd (F.upd (F.upd (F.upd (zr_ [v0, v1]) 4 (.bool false)) 6 v0) 7 t1) 8 v1) 9 t2) 10 t3) 11 v0) 12 t4) 13 (.int .i64 0)) w)
theorem body147 : Try.f147.body = some (zi_ Try.f147) := by kernel_rfl
theorem same147 (v0 v1 : Value) (k : Value → World → Prop) (w : World) : wpF Try.prog pl147 (zi_ Try.f147) (zv_ Try.prog Try.f147.results.toList k) (zr_ [v0, v1]) w = S147 v0 v1 k w := by kernel_rfl
theorem enter147 {v0 v1 : Value} {k : Value → World → Prop} {w : World} (h : S147 v0 v1 k w) : CallK Try.prog 147 [v0, v1] k w :=
  zk_ (pl := pl147) zdb_ Try.func147 body147 (by kernel_rfl) (of_decide_eq_true (by kernel_rfl)) (by kernel_rfl) (by kernel_rfl) (Eq.mpr (same147 v0 v1 k w) h)

def pl109 : Plans := fun _ => ⟨false, [], .nil⟩
def S109 (v0 v1 : Value) (k : Value → World → Prop) (w : World) : Prop :=
 Do Try.prog (sBox 106 v0) (fun t1 w2 =>
 Do Try.prog (sBox 106 v1) (fun t3 w4 =>
 Rd Try.prog (WS.at w4) (za_ 106 t1 0) fun t5 =>
 Rd Try.prog (WS.at w4) (zd_ 3 t5) fun t6 =>
 Rd Try.prog (WS.at w4) (za_ 106 t3 0) fun t7 =>
 Rd Try.prog (WS.at w4) (zd_ 3 t7) fun t8 =>
 Rd Try.prog (WS.at w4) (sBin .eql 3 false t6 t8) fun t9 =>
 zb_ t9 true (fun k w' => Rd Try.prog (WS.at w4) (za_ 106 t1 1) fun v => k v w') (fun t10 w11 =>
 zb_ t9 true (fun k w' => Rd Try.prog (WS.at w11) (zd_ 27 t10) fun v => k v w') (fun t12 w13 =>
 zb_ t9 true (fun k w' => Rd Try.prog (WS.at w13) (za_ 106 t3 1) fun v => k v w') (fun t14 w15 =>
 zb_ t9 true (fun k w' => Rd Try.prog (WS.at w15) (zd_ 27 t14) fun v => k v w') (fun t16 w17 =>
 zb_ t9 true (fun k w' => CallK Try.prog 147 [t12, t16] k w') (fun t18 w19 =>
 Rd Try.prog (WS.at w19) (zcb_ t9 t18 (.bool false)) fun t20 =>
 k t20 w19) w17) w15) w13) w11) w4) w2) w
theorem body109 : Try.f109.body = some (zi_ Try.f109) := by kernel_rfl
theorem same109 (v0 v1 : Value) (k : Value → World → Prop) (w : World) : wpF Try.prog pl109 (zi_ Try.f109) (zv_ Try.prog Try.f109.results.toList k) (zr_ [v0, v1]) w = S109 v0 v1 k w := by kernel_rfl
theorem enter109 {v0 v1 : Value} {k : Value → World → Prop} {w : World} (h : S109 v0 v1 k w) : CallK Try.prog 109 [v0, v1] k w :=
  zk_ (pl := pl109) zdb_ Try.func109 body109 (by kernel_rfl) (of_decide_eq_true (by kernel_rfl)) (by kernel_rfl) (by kernel_rfl) (Eq.mpr (same109 v0 v1 k w) h)

def pl108 : Plans := fun _ => ⟨false, [], .nil⟩
def S108 (v0 v1 : Value) (k : Value → World → Prop) (w : World) : Prop :=
 Do Try.prog (sBox 26 v0) (fun t1 w2 =>
 Rd Try.prog (WS.at w2) (za_ 26 t1 1) fun t3 =>
 Rd Try.prog (WS.at w2) (zd_ 3 t3) fun t4 =>
 Rd Try.prog (WS.at w2) (sUn .neg t4) fun t5 =>
 Rd Try.prog (WS.at w2) (za_ 26 t1 0) fun t6 =>
 Rd Try.prog (WS.at w2) (zd_ 3 t6) fun t7 =>
 Rd Try.prog (WS.at w2) (sBin .sub 3 true t7 (.int .i64 1)) fun t8 =>
 CallK Try.prog 67 [v1, t5, t8] (fun t9 w10 =>
 k t9 w10) w2) w
theorem body108 : Try.f108.body = some (zi_ Try.f108) := by kernel_rfl
theorem same108 (v0 v1 : Value) (k : Value → World → Prop) (w : World) : wpF Try.prog pl108 (zi_ Try.f108) (zv_ Try.prog Try.f108.results.toList k) (zr_ [v0, v1]) w = S108 v0 v1 k w := by kernel_rfl
theorem enter108 {v0 v1 : Value} {k : Value → World → Prop} {w : World} (h : S108 v0 v1 k w) : CallK Try.prog 108 [v0, v1] k w :=
  zk_ (pl := pl108) zdb_ Try.func108 body108 (by kernel_rfl) (of_decide_eq_true (by kernel_rfl)) (by kernel_rfl) (by kernel_rfl) (Eq.mpr (same108 v0 v1 k w) h)

def pl98 : Plans := fun _ => ⟨false, [], .nil⟩
def S98 (v0 v1 : Value) (k : Value → World → Prop) (w : World) : Prop :=
 CallK Try.prog 136 [v0, v1] (fun t1 w2 =>
 Rd Try.prog (WS.at w2) (sBin .geq 3 true t1 (.int .i64 0)) fun t3 =>
 k t3 w2) w
theorem body98 : Try.f98.body = some (zi_ Try.f98) := by kernel_rfl
theorem same98 (v0 v1 : Value) (k : Value → World → Prop) (w : World) : wpF Try.prog pl98 (zi_ Try.f98) (zv_ Try.prog Try.f98.results.toList k) (zr_ [v0, v1]) w = S98 v0 v1 k w := by kernel_rfl
theorem enter98 {v0 v1 : Value} {k : Value → World → Prop} {w : World} (h : S98 v0 v1 k w) : CallK Try.prog 98 [v0, v1] k w :=
  zk_ (pl := pl98) zdb_ Try.func98 body98 (by kernel_rfl) (of_decide_eq_true (by kernel_rfl)) (by kernel_rfl) (by kernel_rfl) (Eq.mpr (same98 v0 v1 k w) h)

def pl64 : Plans := fun i => match i with
  | 6 => ⟨false, [], .step 0 .any (.step 1 .any (.step 2 .any (.step 3 .held (.step 4 .any (.step 5 .any (.step 6 .any (.step 7 .held (.step 8 .any (.nil)))))))))⟩
  | _ => ⟨false, [], .nil⟩
def S64 (v0 v1 : Value) (k : Value → World → Prop) (w : World) : Prop :=
 Rd Try.prog (WS.at w) (zc_ .len #[27] 3 [false] [v0]) fun t1 =>
 Rd Try.prog (WS.at w) (zc_ .len #[27] 3 [false] [v1]) fun t2 =>
 Rd Try.prog (WS.at w) (sBin .neq 3 false t1 t2) fun t3 =>
 zm_ t3
  (k (.bool false) w)
  (Rd Try.prog (WS.at w) (zc_ .len #[27] 3 [false] [v0]) fun t4 =>
  zrb_ [14, 15, 5, 16, 17, 18, 19, 20, 21, 22, 23, 24, 4, 25, 13] (fun Q5 f6 w7 =>
   Rd Try.prog (WS.at w7) (sBin .lss 3 false (f6 13) (f6 12)) fun t8 =>
   zm_ t8
    (Rd Try.prog WS.any (zf_ 27 (f6 0) (f6 13)) fun t9 =>
    Rd Try.prog (WS.at w7.drew) (zd_ 3 t9) fun t10 =>
    Rd Try.prog WS.any (zf_ 27 (f6 1) (f6 13)) fun t11 =>
    Rd Try.prog (WS.at w7.drew) (zd_ 3 t11) fun t12 =>
    Rd Try.prog WS.any (sBin .neq 3 false t10 t12) fun t13 =>
    zm_ t13
     (Q5 .ret (F.upd (F.upd (F.upd (F.upd (F.upd (F.upd (F.upd (F.upd (F.upd (F.upd (F.upd (F.upd (F.upd f6 14 t8) 15 (f6 13)) 5 (f6 13)) 16 (f6 0)) 17 (f6 13)) 18 t9) 19 t10) 20 (f6 1)) 21 (f6 13)) 22 t11) 23 t12) 24 t13) 4 (.bool false)) w7.drew)
     (Rd Try.prog (WS.at w7.drew) (sBin .add 3 true (f6 13) (.int .i64 1)) fun t14 =>
     Q5 .normal (F.upd (F.upd (F.upd (F.upd (F.upd (F.upd (F.upd (F.upd (F.upd (F.upd (F.upd (F.upd (F.upd (F.upd f6 14 t8) 15 (f6 13)) 5 (f6 13)) 16 (f6 0)) 17 (f6 13)) 18 t9) 19 t10) 20 (f6 1)) 21 (f6 13)) 22 t11) 23 t12) 24 t13) 25 t14) 13 t14) w7.drew))
    (Q5 (.exit 0) (F.upd f6 14 t8) w7))
   (zgb_ 0 (seqQ (fun f15 w16 =>
  k (.bool true) w16) (zv_ Try.prog [.tmp 4] k)))
   (F.upd (F.upd (F.upd (F.upd (F.upd (F.upd (F.upd (F.upd (F.upd (zr_ [v0, v1]) 4 (.bool false)) 6 v0) 7 t1) 8 v1) 9 t2) 10 t3) 11 v0) 12 t4) 13 (.int .i64 0)) w)
theorem body64 : Try.f64.body = some (zi_ Try.f64) := by kernel_rfl
theorem same64 (v0 v1 : Value) (k : Value → World → Prop) (w : World) : wpF Try.prog pl64 (zi_ Try.f64) (zv_ Try.prog Try.f64.results.toList k) (zr_ [v0, v1]) w = S64 v0 v1 k w := by kernel_rfl
theorem enter64 {v0 v1 : Value} {k : Value → World → Prop} {w : World} (h : S64 v0 v1 k w) : CallK Try.prog 64 [v0, v1] k w :=
  zk_ (pl := pl64) zdb_ Try.func64 body64 (by kernel_rfl) (of_decide_eq_true (by kernel_rfl)) (by kernel_rfl) (by kernel_rfl) (Eq.mpr (same64 v0 v1 k w) h)

def pl136 : Plans := fun _ => ⟨false, [], .nil⟩
def S136 (v0 v1 : Value) (k : Value → World → Prop) (w : World) : Prop :=
 Rd Try.prog (WS.at w) (zc_ .len #[24] 3 [false] [v0]) fun t1 =>
 zrb_ [9, 10, 5, 11, 12, 13, 14, 15, 16, 17, 4, 18, 8] (fun Q2 f3 w4 =>
  Rd Try.prog (WS.at w4) (sBin .lss 3 false (f3 8) (f3 7)) fun t5 =>
  zm_ t5
   (Rd Try.prog (WS.at w4) (zf_ 24 (f3 0) (f3 8)) fun t6 =>
   Rd Try.prog (WS.at w4) (zd_ 106 t6) fun t7 =>
   Do Try.prog (zbd_ (f3 1) [t7] 4) (fun t8 w9 =>
   zm_ t8
    (Q2 .ret (F.upd (F.upd (F.upd (F.upd (F.upd (F.upd (F.upd (F.upd (F.upd (F.upd (F.upd f3 9 t5) 10 (f3 8)) 5 (f3 8)) 11 (f3 1)) 12 (f3 0)) 13 (f3 8)) 14 t6) 15 t7) 16 t8) 17 (f3 8)) 4 (f3 8)) w9)
    (Rd Try.prog (WS.at w9) (sBin .add 3 true (f3 8) (.int .i64 1)) fun t10 =>
    Q2 .normal (F.upd (F.upd (F.upd (F.upd (F.upd (F.upd (F.upd (F.upd (F.upd (F.upd (F.upd f3 9 t5) 10 (f3 8)) 5 (f3 8)) 11 (f3 1)) 12 (f3 0)) 13 (f3 8)) 14 t6) 15 t7) 16 t8) 18 t10) 8 t10) w9)) w4)
   (Q2 (.exit 0) (F.upd f3 9 t5) w4))
  (zgb_ 0 (seqQ (fun f11 w12 =>
 k (.int .i64 (-1)) w12) (zv_ Try.prog [.tmp 4] k)))
  (F.upd (F.upd (F.upd (F.upd (zr_ [v0, v1]) 4 (.int .i64 0)) 6 v0) 7 t1) 8 (.int .i64 0)) w
theorem body136 : Try.f136.body = some (zi_ Try.f136) := by kernel_rfl
theorem same136 (v0 v1 : Value) (k : Value → World → Prop) (w : World) : wpF Try.prog pl136 (zi_ Try.f136) (zv_ Try.prog Try.f136.results.toList k) (zr_ [v0, v1]) w = S136 v0 v1 k w := by kernel_rfl
theorem enter136 {v0 v1 : Value} {k : Value → World → Prop} {w : World} (h : S136 v0 v1 k w) : CallK Try.prog 136 [v0, v1] k w :=
  zk_ (pl := pl136) zdb_ Try.func136 body136 (by kernel_rfl) (of_decide_eq_true (by kernel_rfl)) (by kernel_rfl) (by kernel_rfl) (Eq.mpr (same136 v0 v1 k w) h)

end Go.Proofs.Yteabbgaffgpegaa

namespace Go.Sh
open Go
def left (n : Int) (s : Nat) : Int := if n < s then -1 else n - s
theorem zii_ {rs : List RuleL} {i j : Nat} (h : j < i) : rul (rs.take i) j = rul rs j := by
  simp [rul, List.getD_eq_getElem?_getD, List.getElem?_take, h]
end Go.Sh
namespace Go.Proofs.Yteabbgaffgpegaa
open Go Go.Sh Go.RowKit

end Go.Proofs.Yteabbgaffgpegaa

namespace Go.Sh
open Go
end Go.Sh
namespace Go.Proofs.Yteabbgaffgpegaa
open Go Go.Sh Go.RowKit

end Go.Proofs.Yteabbgaffgpegaa

namespace Go.Sh
open Go
def GramO (w : World) (B : Nat) (v : Value) (g : Gram) : Prop := ∃ X c ps, v = .agg #[.int .i64 g.nons, .int .i64 g.toks, .slice X g.rules.length c] ∧ OwnR 106 3 w B X c g.rules ps
theorem GramO.gx {D : Nat → Prop} {w w' : World} {B : Nat} {v : Value} {r : Gram} (h : GramO w B v r) (g : Gx D w w') (hn : ∀ b, B ≤ b → b < w.heap.size → ¬ D b) : GramO w' B v r := by
  obtain ⟨X, c, ps, h1, h2⟩ := h
  exact ⟨X, c, ps, h1, h2.gx g hn⟩
theorem GramO.gr {w w' : World} {B : Nat} {v : Value} {r : Gram} (h : GramO w B v r) (g : Gr w w') : GramO w' B v r := by
  obtain ⟨X, c, ps, h1, h2⟩ := h
  exact ⟨X, c, ps, h1, h2.gr g⟩
theorem GramO.mono {w : World} {B B' : Nat} {v : Value} {r : Gram} (h : GramO w B v r) (hb : B' ≤ B) : GramO w B' v r := by
  obtain ⟨X, c, ps, h1, h2⟩ := h
  exact ⟨X, c, ps, h1, h2.mono hb⟩
theorem GramO.read {w : World} {B : Nat} {v : Value} {r : Gram} (h : GramO w B v r) : GramV (fun b => B ≤ b ∧ b < w.heap.size) w v r := by
  obtain ⟨X, c, ps, h1, h2⟩ := h
  obtain ⟨⟨cells, hr, _⟩, _⟩ := h2
  exact ⟨X, c, h1, (Row.cap hr).1, OwnR.read ⟨⟨cells, hr, by assumption⟩, by assumption, by assumption⟩⟩
end Go.Sh
namespace Go.Proofs.Yteabbgaffgpegaa
open Go Go.Sh Go.RowKit

end Go.Proofs.Yteabbgaffgpegaa

namespace Go.Sh
open Go
def Moved (w : World) (X X' : Option Addr) : Prop := blk X' = blk X ∨ ∀ q, blk X' = some q → w.heap.size ≤ q
section
variable {P : Program} {k : Value → World → Prop} {w : World}
theorem zvg_ {t e u sz by' : Nat} {z : Value} (ht : P.underlying t = some (.slice e)) (H : Inf P e z sz by') (hzs : z.cells.size = sz) (hsz : 0 < sz)
    {cs : List Bool} {B n c m d : Nat} {X Y : Option Addr} {cells news : List Value} (hO : Row w B e sz X n c cells) (hS : SrcQ w Y news) (hl : news.length = m * sz) (h1 : ∀ v ∈ news, v.oneCell' = true) (hm : (n + m) * by' ≤ 140737488355328) (hmax : n + m ≤ 9223372036854775807) (hB : B ≤ w.heap.size)
    (h : ∀ X' c' w', Row w' B e sz X' (n + m) c' (cells ++ news) → w.grownBy w' (blk X) → Moved w X X' → k (.slice X' (n + m) c') w') : Do P (zc_ .append #[t, t] u cs [.slice X n c, .slice Y m d]) k w := by
  obtain ⟨i, hi, hz, hsize, hby⟩ := H
  have hfin : ∀ (v' : Value) (w' : World), (Builtin.append_ #[t, t] u #[.slice X n c, .slice Y m d]).run P w = .ok v' w' → w'.ownsRow B e sz v' (n + m) (cells ++ news) → w.grownBy w' (blk X) → (v'.ownBlock = blk X ∨ ∀ q, v'.ownBlock = some q → w.heap.size ≤ q) → Do P (zc_ .append #[t, t] u cs [.slice X n c, .slice Y m d]) k w := by
    intro v' w' hr ho hg hv
    have e' : (zc_ .append #[t, t] u cs [.slice X n c, .slice Y m d]).run P w = .ok (.value v') w' := by
      simp only [zc_, builtin, Sem.run_bind]
      rw [show [Value.slice X n c, Value.slice Y m d].toArray = #[.slice X n c, .slice Y m d] from rfl, hr]
      rfl
    rw [zuc_ e']
    rcases ho.2 with ⟨rfl, hn⟩ | ⟨g, cap, cur, rfl, rest⟩
    · have := h none 0 w' (by rw [hn] at ho ⊢; exact ho) hg hv
      rwa [hn] at this
    · exact h _ _ _ ho hg hv
  cases Y with
  | none =>
    have hn : news = [] := by
      cases news with
      | nil => rfl
      | cons v vs => have := hS.ptr (by simp); cases this
    subst hn
    have hm0 : m = 0 := by
      rcases Nat.mul_eq_zero.1 (show m * sz = 0 from hl.symm) with h | h
      · exact h
      · omega
    subst hm0
    exact hfin _ _ (zeg_ ht ⟨i, hi, hsize⟩ hO.cap.1) (by rw [List.append_nil, Nat.add_zero]; exact hO) (zbe_ (Gr.refl w) _) (.inl own_eq)
  | some a =>
    have h63 : n + m ≤ maxLen := by unfold maxLen; omega
    rcases hO.at_ with ⟨rfl, rfl, rfl⟩ | ⟨g, rfl, hbg, hgl⟩
    · have hnil : cells = [] := List.eq_nil_of_length_eq_zero (by rw [hO.len]; omega)
      subst hnil
      obtain ⟨v', w', h1', h2', h3', _⟩ := run_append_own (P := P) (w := w) w.heap.size t u e i z sz by' ht hi hz hsize hby hzs hsz (.slice none 0 0) 0 [] (Row.nil w w.heap.size e sz) a m d news hl (fun j u hu => hS.cell j u hu) h1 h63 hm (Nat.le_refl _)
      refine hfin v' w' h1' ?_ h3' (.inr fun q hq => ?_)
      · rcases h2'.2 with ⟨rfl, hn⟩ | ⟨g, cap, cur, rfl, e2, rest⟩
        · exact ⟨h2'.1, .inl ⟨rfl, hn⟩⟩
        · exact ⟨h2'.1, .inr ⟨g, cap, cur, rfl, Nat.le_trans hB e2, rest⟩⟩
      · rcases h2'.2 with ⟨rfl, hn⟩ | ⟨g, cap, cur, rfl, e2, rest⟩
        · cases hq
        · have : g = q := by simpa [Value.ownBlock] using hq
          omega
    · by_cases hroom : n + m ≤ c
      · obtain ⟨v', w', h1', h2', h3', _⟩ := run_append_own (P := P) (w := w) B t u e i z sz by' ht hi hz hsize hby hzs hsz _ n cells hO a m d news hl (fun j u hu => hS.cell j u hu) h1 h63 hm hB
        refine hfin v' w' h1' h2' (by rw [← own_eq]; exact h3') (.inl ?_)
        rcases hO.2 with ⟨hbad, _⟩ | ⟨g', cap', cur, e1, e2, e3, e4, e5, e6, e7⟩
        · simp at hbad
        obtain ⟨rfl, _, rfl⟩ : g = g' ∧ n = n ∧ c = cap' := by simpa using e1
        subst hsize
        have hr := run_append_room (P := P) w t u e i ht hi g n c cur e3 a m d news hl (fun j u hu => hS.cell j u hu) h1 hroom (by rw [hl, e6, ← Nat.add_mul]; exact Nat.mul_le_mul_right _ hroom)
        rw [hr] at h1'
        injection h1' with hv _
        rw [← hv]
        rfl
      · obtain ⟨v', w', h1', h2', h3'⟩ := run_append_arg_grows (P := P) (w := w) t u e i z sz by' ht hi hz hsize hby hzs hsz ⟨g, 0, none⟩ n c cells hO.len (fun j u hu => by
          have := hO.src.cell j u hu
          exact this) a m d news hl (fun j u hu => hS.cell j u hu) (by omega) h63 hm
        refine hfin v' w' h1' ?_ (zbe_ h3' _) (.inr fun q hq => ?_)
        · rcases h2'.2 with ⟨rfl, hn⟩ | ⟨g, cap, cur, rfl, e2, rest⟩
          · exact ⟨h2'.1, .inl ⟨rfl, hn⟩⟩
          · exact ⟨h2'.1, .inr ⟨g, cap, cur, rfl, Nat.le_trans hB e2, rest⟩⟩
        · rcases h2'.2 with ⟨rfl, hn⟩ | ⟨g, cap, cur, rfl, e2, rest⟩
          · cases hq
          · have : g = q := by simpa [Value.ownBlock] using hq
            omega
end
def RCells (cells : List Value) (rs : List RuleL) (ps : Nat → Option Addr × Nat) : Prop :=
  cells.length = rs.length * 2 ∧ ∀ j, j < rs.length → cells[j * 2]? = some (.int .i64 (rul rs j).1) ∧ cells[j * 2 + 1]? = some (.slice (ps j).1 (rul rs j).2.length (ps j).2)
def joinP (n : Nat) (ps qp : Nat → Option Addr × Nat) : Nat → Option Addr × Nat := fun i => if i < n then ps i else qp (i - n)
theorem rul_left {rs qs : List RuleL} {i : Nat} (h : i < rs.length) : rul (rs ++ qs) i = rul rs i := by
  simp [rul, List.getD_eq_getElem?_getD, List.getElem?_append_left h]
theorem rul_right {rs qs : List RuleL} {i : Nat} (h : rs.length ≤ i) : rul (rs ++ qs) i = rul qs (i - rs.length) := by
  simp [rul, List.getD_eq_getElem?_getD, List.getElem?_append_right h]
theorem RCells.append {cells news : List Value} {rs qs : List RuleL} {ps qp : Nat → Option Addr × Nat} (h : RCells cells rs ps) (g : RCells news qs qp) : RCells (cells ++ news) (rs ++ qs) (joinP rs.length ps qp) := by
  refine ⟨by rw [List.length_append, List.length_append, h.1, g.1, Nat.add_mul], fun j hj => ?_⟩
  have h1 := h.1
  by_cases hlt : j < rs.length
  · rw [List.getElem?_append_left (by omega), List.getElem?_append_left (by omega), rul_left hlt]
    simp only [joinP, hlt, if_true]
    exact h.2 j hlt
  · rw [List.getElem?_append_right (by omega), List.getElem?_append_right (by omega), rul_right (by omega), h1]
    simp only [joinP, hlt, if_false]
    have := g.2 (j - rs.length) (by rw [List.length_append] at hj; omega)
    rw [show j * 2 - rs.length * 2 = (j - rs.length) * 2 from by omega, show j * 2 + 1 - rs.length * 2 = (j - rs.length) * 2 + 1 from by omega]
    exact this
theorem RCells.one {cells : List Value} {rs : List RuleL} {ps : Nat → Option Addr × Nat} (h : RCells cells rs ps) : ∀ v ∈ cells, v.oneCell' = true := by
  intro v hv
  obtain ⟨k, hk, rfl⟩ := List.getElem_of_mem hv
  have hl := h.1
  obtain ⟨h1, h2⟩ := h.2 (k / 2) (by omega)
  rcases Nat.mod_two_eq_zero_or_one k with e | e
  · rw [show k / 2 * 2 = k from by omega, List.getElem?_eq_getElem hk] at h1
    rw [Option.some.inj h1]
    rfl
  · rw [show k / 2 * 2 + 1 = k from by omega, List.getElem?_eq_getElem hk] at h2
    rw [Option.some.inj h2]
    rfl
theorem OwnR.cells {e1 e2 : Nat} {w : World} {B : Nat} {X : Option Addr} {c : Nat} {rs : List RuleL} {ps : Nat → Option Addr × Nat} (h : OwnR e1 e2 w B X c rs ps) : ∃ cells, Row w B e1 2 X rs.length c cells ∧ RCells cells rs ps := by
  obtain ⟨cells, hr, hc⟩ := h.row
  exact ⟨cells, hr, hr.len, hc⟩
section
variable {P : Program} {S : WS} {k : Value → Prop}
theorem zpk_ {t sz by' n0 n1 n2 : Nat} {z : Value} {f0 f1 f2 : Field} {ps : List (Nat × Value)} {cells : Array Value} (ht : P.underlying t = some (.struct #[f0, f1, f2])) (H : Inf P t z sz by') (h0 : szOf P f0.type n0) (h1 : szOf P f1.type n1) (h2 : szOf P f2.type n2)
    (hf : Instr.fill (#[(f0.offset, n0), (f1.offset, n1), (f2.offset, n2)][·]?) z.cells ps = some cells) : Rd P S (zw_ t ps) k = k (.agg cells) := ztb_ fun w _ => by
  obtain ⟨i, hi, hz, _, _⟩ := H
  have e0 : (zeroValue t).run P w = .ok z w := by simp [zeroValue, zpe_ hi, hz]
  have hf' : Instr.fill (fun x => [(f0.offset, n0), (f1.offset, n1), (f2.offset, n2)][x]?) z.cells ps = some cells := by simpa using hf
  simp [zw_, Instr.build, e0, run_underlying ht, zec_ h0, zec_ h1, zec_ h2, hf']
theorem rd_build2 {t sz by' n0 n1 : Nat} {z : Value} {f0 f1 : Field} {ps : List (Nat × Value)} {cells : Array Value} (ht : P.underlying t = some (.struct #[f0, f1])) (H : Inf P t z sz by') (h0 : szOf P f0.type n0) (h1 : szOf P f1.type n1)
    (hf : Instr.fill (#[(f0.offset, n0), (f1.offset, n1)][·]?) z.cells ps = some cells) : Rd P S (zw_ t ps) k = k (.agg cells) := ztb_ fun w _ => by
  obtain ⟨i, hi, hz, _, _⟩ := H
  have e0 : (zeroValue t).run P w = .ok z w := by simp [zeroValue, zpe_ hi, hz]
  have hf' : Instr.fill (fun x => [(f0.offset, n0), (f1.offset, n1)][x]?) z.cells ps = some cells := by simpa using hf
  simp [zw_, Instr.build, e0, run_underlying ht, zec_ h0, zec_ h1, hf']
end
theorem box_row {w : World} {b t B e sz n c : Nat} {cs xs : List Value} {X : Option Addr} (hb : Box w b cs t) (h : Row w B e sz X n c xs) (he : e ≠ t) : blk X ≠ some b := by
  intro hq
  rcases h.2 with h2 | ⟨q, cap, cur, e1, e2, e3, e4⟩
  · obtain ⟨rfl, _, _⟩ : X = none ∧ n = 0 ∧ c = 0 := by simpa using h2.1
    cases hq
  · obtain ⟨rfl, _, _⟩ : X = some ⟨q, 0, none⟩ ∧ n = n ∧ c = cap := by simpa using e1
    have : q = b := by simpa [blk] using hq
    subst this
    unfold Box at hb
    rw [hb] at e3
    simp at e3
    exact he e3.2.symm
theorem OwnR.put {e1 e2 : Nat} {w w' : World} {B b t : Nat} {X : Option Addr} {c : Nat} {rs : List RuleL} {ps : Nat → Option Addr × Nat} {cs : List Value} (h : OwnR e1 e2 w B X c rs ps) (hb : Box w b cs t) (h1 : e1 ≠ t) (h2 : e2 ≠ t) (g : w.grownBy w' (some b)) : OwnR e1 e2 w' B X c rs ps := by
  obtain ⟨⟨cells, hr, hc⟩, ho, ht⟩ := h
  exact ⟨⟨cells, Row.kept hr g (.inr (box_row hb hr h1)), hc⟩, fun j hj => Row.kept (ho j hj) g (.inr (box_row hb (ho j hj) h2)), ht⟩
section
variable {P : Program} {k : Value → World → Prop} {w : World}
end
theorem rng1 : Array.range 1 = #[0] := by decide
theorem rng2 : Array.range 2 = #[0, 1] := by decide
theorem rng3 : Array.range 3 = #[0, 1, 2] := by decide
theorem rng4 : Array.range 4 = #[0, 1, 2, 3] := by decide
end Go.Sh
namespace Go.Proofs.Yteabbgaffgpegaa
open Go Go.Sh
theorem bd26 {S : WS} {k : Value → Prop} {ps : List (Nat × Value)} {cells : Array Value} (hf : Instr.fill (#[(0, 1), (1, 1), (2, 1)][·]?) #[.int .i64 0, .int .i64 0, .slice none 0 0] ps = some cells) : Rd Try.prog S (zw_ 26 ps) k = k (.agg cells) :=
  zpk_ Try.underlying26 inf26 sz3 sz3 sz24 hf
theorem zub_ {S : WS} {k : Value → Prop} {ps : List (Nat × Value)} {cells : Array Value} (hf : Instr.fill (#[(0, 1), (1, 1)][·]?) #[.int .i64 0, .slice none 0 0] ps = some cells) : Rd Try.prog S (zw_ 106 ps) k = k (.agg cells) :=
  rd_build2 Try.underlying106 zgc_ sz3 sz27 hf

end Go.Proofs.Yteabbgaffgpegaa

namespace Go.Sh
open Go
theorem OwnR.left {e1 e2 : Nat} {w w' : World} {B c i : Nat} {X : Option Addr} {rs : List RuleL} {ps : Nat → Option Addr × Nat} {m : Int} {cells : List Value} (h : OwnR e1 e2 w B X c rs ps) (he : e1 ≠ e2) (hi : i < rs.length) (hc : RCells cells rs ps) (hr0 : Row w B e1 2 X rs.length c cells) (hr : Row w' B e1 2 X rs.length c (cells.set (i * 2) (.int .i64 m))) (g : w.grownBy w' (blk X)) : OwnR e1 e2 w' B X c (rs.set i (m, (rul rs i).2)) ps := by
  have hl := hc.1
  refine ⟨⟨_, by rw [List.length_set]; exact hr, fun j hj => ?_⟩, fun j hj => ?_, fun a b ha hb hab => ?_⟩
  · rw [List.length_set] at hj
    obtain ⟨h1, h2⟩ := hc.2 j hj
    rw [zvh_ hi]
    by_cases hij : j = i
    · subst hij
      rw [if_pos rfl]
      exact ⟨by rw [List.getElem?_set_self (by omega)], by rw [List.getElem?_set_ne (by omega)]; exact h2⟩
    · rw [if_neg hij]
      exact ⟨by rw [List.getElem?_set_ne (by omega)]; exact h1, by rw [List.getElem?_set_ne (by omega)]; exact h2⟩
  · rw [List.length_set] at hj
    have := Row.kept (h.own j hj) g (zif_ (h.own j hj) hr0 (fun e => he e.symm))
    rw [zvh_ hi]
    by_cases hij : j = i
    · subst hij
      rw [if_pos rfl]
      exact this
    · rw [if_neg hij]
      exact this
  · rw [List.length_set] at ha hb
    exact h.two a b ha hb hab
theorem OwnR.right {e1 e2 : Nat} {w w' : World} {B c i : Nat} {X : Option Addr} {rs : List RuleL} {ps : Nat → Option Addr × Nat} {ys : List Int} (h : OwnR e1 e2 w B X c rs ps) (he : e1 ≠ e2) (hi : i < rs.length) (hl : ys.length = (rul rs i).2.length) (ho : Own e2 w' B (ps i).1 (ps i).2 ys) (g : w.grownBy w' (blk (ps i).1)) : OwnR e1 e2 w' B X c (rs.set i ((rul rs i).1, ys)) ps := by
  obtain ⟨cells, hr, hc⟩ := h.cells
  refine ⟨⟨cells, by rw [List.length_set]; exact Row.kept hr g (zif_ hr (h.own i hi) he), fun j hj => ?_⟩, fun j hj => ?_, fun a b ha hb hab => ?_⟩
  · rw [List.length_set] at hj
    obtain ⟨h1, h2⟩ := hc.2 j hj
    rw [zvh_ hi]
    by_cases hij : j = i
    · subst hij
      rw [if_pos rfl]
      exact ⟨h1, by rw [h2, hl]⟩
    · rw [if_neg hij]
      exact ⟨h1, h2⟩
  · rw [List.length_set] at hj
    rw [zvh_ hi]
    by_cases hij : j = i
    · subst hij
      rw [if_pos rfl]
      exact ho
    · rw [if_neg hij]
      exact Row.kept (h.own j hj) g (h.two j i hj hi hij)
  · rw [List.length_set] at ha hb
    exact h.two a b ha hb hab
def Foot (X : Option Addr) (ps : Nat → Option Addr × Nat) (n : Nat) (q : Nat) : Prop := blk X = some q ∨ ∃ l, l < n ∧ blk (ps l).1 = some q
theorem OwnR.foot {e1 e2 : Nat} {w : World} {B c : Nat} {X : Option Addr} {rs : List RuleL} {ps : Nat → Option Addr × Nat} (h : OwnR e1 e2 w B X c rs ps) {q : Nat} (hq : Foot X ps rs.length q) : B ≤ q ∧ q < w.heap.size := by
  rcases hq with hq | ⟨l, hl, hq⟩
  · obtain ⟨cells, hr, _⟩ := h.cells
    exact Row.ge hr hq
  · exact Row.ge (h.own l hl) hq
end Go.Sh
namespace Go.Proofs.Yteabbgaffgpegaa
open Go Go.Sh Go.RowKit

end Go.Proofs.Yteabbgaffgpegaa

namespace Go.Sh
open Go
structure Thing where
  P : World → Prop
  ft : Nat → Prop
structure Thing.Ok (it : Thing) (w0 w : World) : Prop where
  lo : ∀ q, it.ft q → w0.heap.size ≤ q
  hi : ∀ q, it.ft q → q < w.heap.size
  kept : ∀ w', (∀ q, it.ft q → w'.heap[q]? = w.heap[q]?) → it.P w'
theorem Thing.Ok.step {it : Thing} {w0 w w' : World} (h : it.Ok w0 w) (hs : w.heap.size ≤ w'.heap.size) (hb : ∀ q, it.ft q → w'.heap[q]? = w.heap[q]?) : it.Ok w0 w' :=
  ⟨h.lo, fun q hq => Nat.lt_of_lt_of_le (h.hi q hq) hs, fun w'' h'' => h.kept w'' fun q hq => (h'' q hq).trans (hb q hq)⟩
structure Apt (w0 w : World) (L : List Thing) : Prop where
  gr : Gr w0 w
  ok : ∀ (i : Nat) (it : Thing), L[i]? = some it → it.Ok w0 w
  two : ∀ (i j : Nat) (a b : Thing), i ≠ j → L[i]? = some a → L[j]? = some b → ∀ q, a.ft q → ¬ b.ft q
theorem zji_ {L : List Thing} {x a : Thing} {i : Nat} (h : (L ++ [x])[i]? = some a) : L[i]? = some a ∨ (i = L.length ∧ a = x) := by
  by_cases hi : i < L.length
  · rw [List.getElem?_append_left hi] at h
    exact .inl h
  · rw [List.getElem?_append_right (by omega)] at h
    have : i - L.length = 0 := by
      have := (List.getElem?_eq_some_iff.1 h).1
      simpa using this
    rw [this] at h
    refine .inr ⟨by omega, ?_⟩
    simpa using h.symm
theorem get_lt {L : List Thing} {a : Thing} {i : Nat} (h : L[i]? = some a) : i < L.length := (List.getElem?_eq_some_iff.1 h).1
theorem zmg_ {L : List Thing} {x a : Thing} {i j : Nat} (h : (L.set i x)[j]? = some a) : (j = i ∧ a = x) ∨ (j ≠ i ∧ L[j]? = some a) := by
  rw [List.getElem?_set] at h
  by_cases hij : i = j
  · rw [if_pos hij] at h
    split at h
    · exact .inl ⟨hij.symm, by simpa using h.symm⟩
    · cases h
  · rw [if_neg hij] at h
    exact .inr ⟨fun e => hij e.symm, h⟩
theorem Apt.nil (w : World) : Apt w w [] := ⟨Gr.refl w, fun i it h => by simp at h, fun i j a b _ h => by simp at h⟩
theorem Apt.step {w0 w w' : World} {L : List Thing} (H : Apt w0 w L) (g : Gr w w') : Apt w0 w' L :=
  ⟨ze_ H.gr g, fun i it hi => (H.ok i it hi).step g.size fun q hq => g.block q ((H.ok i it hi).hi q hq) (by simp), H.two⟩
theorem Apt.drew {w0 w : World} {L : List Thing} (H : Apt w0 w L) : Apt w0 w.drew L := H.step (zhb_ w)
theorem Apt.get {w0 w : World} {L : List Thing} (H : Apt w0 w L) (i : Nat) {it : Thing} (hi : L[i]? = some it) : it.P w := (H.ok i it hi).kept w fun _ _ => rfl
theorem Apt.add {w0 w w' : World} {L : List Thing} (H : Apt w0 w L) (g : Gr w w') (it : Thing) (lo : ∀ q, it.ft q → w.heap.size ≤ q) (hi : ∀ q, it.ft q → q < w'.heap.size) (kept : ∀ w'', (∀ q, it.ft q → w''.heap[q]? = w'.heap[q]?) → it.P w'') : Apt w0 w' (L ++ [it]) := by
  have H' := H.step g
  refine ⟨H'.gr, fun i a ha => ?_, fun i j a b hij ha hb q hq hq' => ?_⟩
  · rcases zji_ ha with h | ⟨_, rfl⟩
    · exact H'.ok i a h
    · exact ⟨fun q hq => Nat.le_trans H.gr.size (lo q hq), hi, kept⟩
  · rcases zji_ ha with h | ⟨e, rfl⟩ <;> rcases zji_ hb with h' | ⟨e', rfl⟩
    · exact H.two i j a b hij h h' q hq hq'
    · have := (H.ok i a h).hi q hq
      have := lo q hq'
      omega
    · have := (H.ok j b h').hi q hq'
      have := lo q hq
      omega
    · exact hij (e.trans e'.symm)
theorem Apt.set {w0 w w' : World} {L : List Thing} (H : Apt w0 w L) {i : Nat} {it it' : Thing} (hi : L[i]? = some it) (g : Gx it.ft w w') (lo : ∀ q, it'.ft q → it.ft q ∨ w.heap.size ≤ q) (hh : ∀ q, it'.ft q → q < w'.heap.size) (kept : ∀ w'', (∀ q, it'.ft q → w''.heap[q]? = w'.heap[q]?) → it'.P w'') : Apt w0 w' (L.set i it') := by
  have hit := H.ok i it hi
  have hsz := H.gr.size
  refine ⟨Gx.gr_after H.gr g fun q hq => hit.lo q hq, fun j a ha => ?_, fun j l a b hjl ha hb q hq hq' => ?_⟩
  · rcases zmg_ ha with ⟨rfl, rfl⟩ | ⟨hj, h⟩
    · refine ⟨fun q hq => ?_, hh, kept⟩
      rcases lo q hq with h | h
      · exact hit.lo q h
      · omega
    · have := H.ok j a h
      exact this.step g.size fun q hq => g.block q (this.hi q hq) fun hq' => H.two j i a it hj h hi q hq hq'
  · rcases zmg_ ha with ⟨rfl, rfl⟩ | ⟨hj, h⟩ <;> rcases zmg_ hb with ⟨rfl, rfl⟩ | ⟨hl, h'⟩
    · exact hjl rfl
    · rcases lo q hq with h2 | h2
      · exact H.two _ _ _ _ (fun e => hl e.symm) hi h' q h2 hq'
      · have := (H.ok l b h').hi q hq'
        omega
    · rcases lo q hq' with h2 | h2
      · exact H.two _ _ _ _ hj h hi q hq h2
      · have := (H.ok j a h).hi q hq
        omega
    · exact H.two j l a b hjl h h' q hq hq'
theorem Apt.pick {w0 w : World} {L L' : List Thing} (H : Apt w0 w L) (m : Nat → Nat) (h : ∀ i a, L'[i]? = some a → L[m i]? = some a) (hm : ∀ i j, i < L'.length → j < L'.length → m i = m j → i = j) : Apt w0 w L' :=
  ⟨H.gr, fun i a ha => H.ok _ a (h i a ha), fun i j a b hij ha hb => H.two _ _ a b (fun e => hij (hm i j (get_lt ha) (get_lt hb) e)) (h i a ha) (h j b hb)⟩
theorem Apt.take {w0 w : World} {L : List Thing} (H : Apt w0 w L) (n : Nat) : Apt w0 w (L.take n) := by
  have h : ∀ (i : Nat) (a : Thing), (L.take n)[i]? = some a → L[i]? = some a := fun i a ha => by
    rw [List.getElem?_take] at ha
    split at ha
    · exact ha
    · cases ha
  exact ⟨H.gr, fun i a ha => H.ok i a (h i a ha), fun i j a b hij ha hb => H.two i j a b hij (h i a ha) (h j b hb)⟩

theorem Apt.append {w0 w1 w2 : World} {L M : List Thing} (H : Apt w0 w1 L) (G : Apt w1 w2 M) : Apt w0 w2 (L ++ M) := by
  have H' := H.step G.gr
  have get : ∀ (i : Nat) (a : Thing), (L ++ M)[i]? = some a → (i < L.length ∧ L[i]? = some a) ∨ (L.length ≤ i ∧ M[i - L.length]? = some a) := fun i a ha => by
    by_cases h : i < L.length
    · rw [List.getElem?_append_left h] at ha
      exact .inl ⟨h, ha⟩
    · rw [List.getElem?_append_right (by omega)] at ha
      exact .inr ⟨by omega, ha⟩
  refine ⟨H'.gr, fun i a ha => ?_, fun i j a b hij ha hb q hq hq' => ?_⟩
  · rcases get i a ha with ⟨_, h⟩ | ⟨_, h⟩
    · exact H'.ok i a h
    · have := G.ok _ a h
      exact ⟨fun q hq => Nat.le_trans H.gr.size (this.lo q hq), this.hi, this.kept⟩
  · rcases get i a ha with ⟨h1, h⟩ | ⟨h1, h⟩ <;> rcases get j b hb with ⟨h2, h'⟩ | ⟨h2, h'⟩
    · exact H.two i j a b hij h h' q hq hq'
    · have := (H.ok i a h).hi q hq
      have := (G.ok _ b h').lo q hq'
      omega
    · have := (H.ok j b h').hi q hq'
      have := (G.ok _ a h).lo q hq
      omega
    · exact G.two _ _ a b (by omega) h h' q hq hq'
theorem Apt.swap {w0 w : World} {a b : Thing} (H : Apt w0 w [a, b]) : Apt w0 w [b, a] :=
  H.pick (fun i => 1 - i) (fun i x hx => by
    match i, hx with
    | 0, hx => exact hx
    | 1, hx => exact hx
    | i + 2, hx => simp at hx) (fun i j hi hj e => by simp at hi hj; omega)
theorem zed_ {b : (F → World → Prop) → Prop} {n : F → World → Prop} (C : F → World → Prop) (hb : ∀ K, (∀ f w, C f w → K f w) → b K) (hn : ∀ f w, C f w → n f w) : Join b n := hb n hn
theorem Row.same {w w' : World} {B e sz n c : Nat} {X : Option Addr} {cells : List Value} (h : Row w B e sz X n c cells) (hs : ∀ q, blk X = some q → w'.heap[q]? = w.heap[q]?) : Row w' B e sz X n c cells := by
  obtain ⟨hl, h2⟩ := h
  refine ⟨hl, ?_⟩
  rcases h2 with h2 | ⟨q, cap, cur, e1, e2, e3, e4⟩
  · exact .inl h2
  · refine .inr ⟨q, cap, cur, e1, e2, ?_, e4⟩
    obtain ⟨rfl, _, _⟩ : X = some ⟨q, 0, none⟩ ∧ n = n ∧ c = cap := by simpa using e1
    rw [hs q rfl]
    exact e3
theorem Row.up {w : World} {B B' e sz n c : Nat} {X : Option Addr} {cells : List Value} (h : Row w B e sz X n c cells) (hb : ∀ q, blk X = some q → B' ≤ q) : Row w B' e sz X n c cells := by
  obtain ⟨hl, h2⟩ := h
  refine ⟨hl, ?_⟩
  rcases h2 with h2 | ⟨q, cap, cur, e1, e2, e3⟩
  · exact .inl h2
  · obtain ⟨rfl, _, _⟩ : X = some ⟨q, 0, none⟩ ∧ n = n ∧ c = cap := by simpa using e1
    exact .inr ⟨q, cap, cur, e1, hb q rfl, e3⟩
theorem OwnR.same {e1 e2 : Nat} {w w' : World} {B : Nat} {X : Option Addr} {c : Nat} {rs : List RuleL} {ps : Nat → Option Addr × Nat} (h : OwnR e1 e2 w B X c rs ps) (hs : ∀ q, Foot X ps rs.length q → w'.heap[q]? = w.heap[q]?) : OwnR e1 e2 w' B X c rs ps := by
  obtain ⟨⟨cells, hr, hc⟩, ho, ht⟩ := h
  exact ⟨⟨cells, hr.same fun q hq => hs q (.inl hq), hc⟩, fun j hj => Row.same (ho j hj) fun q hq => hs q (.inr ⟨j, hj, hq⟩), ht⟩
theorem OwnR.up {e1 e2 : Nat} {w : World} {B B' : Nat} {X : Option Addr} {c : Nat} {rs : List RuleL} {ps : Nat → Option Addr × Nat} (h : OwnR e1 e2 w B X c rs ps) (hs : ∀ q, Foot X ps rs.length q → B' ≤ q) : OwnR e1 e2 w B' X c rs ps := by
  obtain ⟨⟨cells, hr, hc⟩, ho, ht⟩ := h
  exact ⟨⟨cells, hr.up fun q hq => hs q (.inl hq), hc⟩, fun j hj => Row.up (ho j hj) fun q hq => hs q (.inr ⟨j, hj, hq⟩), ht⟩
def bx (b : Nat) (cs : List Value) (t : TypeId) : Thing := ⟨fun w => Box w b cs t, fun q => q = b⟩
def rwi (e sz : Nat) (X : Option Addr) (n c : Nat) (cells : List Value) : Thing := ⟨fun w => Row w 0 e sz X n c cells, fun q => blk X = some q⟩
def rls (e1 e2 : Nat) (X : Option Addr) (c : Nat) (rs : List RuleL) (ps : Nat → Option Addr × Nat) : Thing := ⟨fun w => OwnR e1 e2 w 0 X c rs ps, Foot X ps rs.length⟩
theorem zwh_ {w : World} {b t : Nat} {cs : List Value} (h : Box w b cs t) : ∀ w', (∀ q, (bx b cs t).ft q → w'.heap[q]? = w.heap[q]?) → (bx b cs t).P w' := fun w' hq => (hq b rfl).trans h
theorem zwg_ {w : World} {B e sz n c : Nat} {X : Option Addr} {cells : List Value} (h : Row w B e sz X n c cells) : ∀ w', (∀ q, (rwi e sz X n c cells).ft q → w'.heap[q]? = w.heap[q]?) → (rwi e sz X n c cells).P w' := fun w' hq => (Row.mono h (Nat.zero_le B)).same hq
section
variable {w0 w w' : World} {L : List Thing}
theorem Apt.box (H : Apt w0 w L) (i : Nat) {b t : Nat} {cs : List Value} (hi : L[i]? = some (bx b cs t)) : Box w b cs t := H.get i hi
theorem Apt.row (H : Apt w0 w L) (i : Nat) {e sz n c : Nat} {X : Option Addr} {cells : List Value} (hi : L[i]? = some (rwi e sz X n c cells)) : Row w w0.heap.size e sz X n c cells := Row.up (H.get i hi) (H.ok i _ hi).lo
theorem Apt.rules (H : Apt w0 w L) (i : Nat) {e1 e2 c : Nat} {X : Option Addr} {rs : List RuleL} {ps : Nat → Option Addr × Nat} (hi : L[i]? = some (rls e1 e2 X c rs ps)) : OwnR e1 e2 w w0.heap.size X c rs ps := OwnR.up (H.get i hi) (H.ok i _ hi).lo
theorem Apt.addBox (H : Apt w0 w L) (g : Gr w w') {b t : Nat} {cs : List Value} (hb : w.heap.size ≤ b) (h : Box w' b cs t) : Apt w0 w' (L ++ [bx b cs t]) := H.add g _ (fun q hq => (show q = b from hq) ▸ hb) (fun q hq => (show q = b from hq) ▸ h.lt) (zwh_ h)
theorem Apt.addRow (H : Apt w0 w L) (g : Gr w w') {e sz n c : Nat} {X : Option Addr} {cells : List Value} (h : Row w' w.heap.size e sz X n c cells) : Apt w0 w' (L ++ [rwi e sz X n c cells]) := H.add g _ (fun q hq => (Row.ge h hq).1) (fun q hq => (Row.ge h hq).2) (zwg_ h)
theorem Apt.addNil (H : Apt w0 w L) (e sz : Nat) : Apt w0 w (L ++ [rwi e sz none 0 0 []]) := H.addRow (Gr.refl w) (Row.nil _ _ _ _)
end
theorem zge_ {σ : Type} {W : List Nat} {body : (Exit → F → World → Prop) → F → World → Prop} {Q : Exit → F → World → Prop} {f0 : F} {w0 : World} (J : σ → F → World → Prop) (m : σ → Nat) (s0 : σ) (h0 : J s0 f0 w0)
    (h : ∀ s f w (N : F → World → Prop), Agree W f0 f → J s f w → (∀ s' f' w', J s' f' w' → m s' < m s → N f' w') → body (seqQ N Q) f w) : zrb_ W body Q f0 w0 := by
  classical
  have hm : ∃ μ : F → World → Nat, (∀ f w s, J s f w → μ f w ≤ m s) ∧ ∀ f w, (∃ s, J s f w) → ∃ s, J s f w ∧ m s = μ f w := by
    have key : ∀ f w, ∃ n, (∀ s, J s f w → n ≤ m s) ∧ ((∃ s, J s f w) → ∃ s, J s f w ∧ m s = n) := fun f w => by
      by_cases hx : ∃ s, J s f w
      · have : ∃ n, ∃ s, J s f w ∧ m s = n := by
          obtain ⟨s, hs⟩ := hx
          exact ⟨_, s, hs, rfl⟩
        have ind : ∀ n, (∃ s, J s f w ∧ m s = n) → ∃ n, (∀ s, J s f w → n ≤ m s) ∧ ∃ s, J s f w ∧ m s = n := by
          intro n
          induction n using Nat.strongRecOn with
          | _ n ih =>
            intro hn
            by_cases hlt : ∃ s, J s f w ∧ m s < n
            · obtain ⟨s, hs, hl⟩ := hlt
              exact ih _ hl ⟨s, hs, rfl⟩
            · exact ⟨n, fun s hs => Classical.byContradiction fun hc => hlt ⟨s, hs, by omega⟩, hn⟩
        obtain ⟨n, hn⟩ := this
        obtain ⟨n', h1, h2⟩ := ind n hn
        exact ⟨n', h1, fun _ => h2⟩
      · exact ⟨0, fun s hs => absurd ⟨s, hs⟩ hx, fun e => absurd e hx⟩
    exact ⟨fun f w => Classical.choose (key f w), fun f w s hs => (Classical.choose_spec (key f w)).1 s hs, fun f w hx => (Classical.choose_spec (key f w)).2 hx⟩
  obtain ⟨μ, hμ1, hμ2⟩ := hm
  refine ⟨fun f w => ∃ s, J s f w, μ, ⟨s0, h0⟩, fun f w hag hx => ?_⟩
  obtain ⟨s, hs, hms⟩ := hμ2 f w hx
  refine h s f w _ hag hs fun s' f' w' hs' hlt => ⟨⟨s', hs'⟩, ?_⟩
  have := hμ1 f' w' s' hs'
  omega
theorem zad_ {W : List Nat} {body : (Exit → F → World → Prop) → F → World → Prop} {Q : Exit → F → World → Prop} {f0 : F} {w0 : World} (n a : Nat) (J : Nat → F → World → Prop) (h0 : J a f0 w0)
    (h : ∀ i f w (N : F → World → Prop), Agree W f0 f → J i f w → (∀ f' w', i < n → J (i + 1) f' w' → N f' w') → body (seqQ N Q) f w) : zrb_ W body Q f0 w0 :=
  zge_ J (fun i => n - i) a h0 fun i f w N hag hJ hN => by
    by_cases hlt : i < n
    · exact h i f w N hag hJ fun f' w' _ hJ' => hN (i + 1) f' w' hJ' (by omega)
    · exact h i f w N hag hJ fun f' w' hlt' _ => absurd hlt' hlt
theorem rng6 : Array.range 6 = #[0, 1, 2, 3, 4, 5] := by decide
theorem rdi {A B : Prop} (e : A = B) (h : B) : A := e ▸ h
theorem all_one {vs : List Value} (h : vs.all Value.oneCell' = true) : ∀ v ∈ vs, v.oneCell' = true := fun v hv => List.all_eq_true.1 h v hv
section
variable {P : Program} {k : Value → World → Prop} {w0 w : World} {L : List Thing}
theorem boxH (H : Apt w0 w L) {t : TypeId} {v : Value} (h : ∀ b w', Apt w0 w' (L ++ [bx b v.cells.toList t]) → k (.pointer (some ⟨b, 0, none⟩)) w') : Do P (sBox t v) k w :=
  zfc_ fun b w' g hb hB => h b w' (H.addBox g hb hB)
theorem zfd_ (H : Apt w0 w L) {t sz by' : Nat} {z : Value} (I : Inf P t z sz by') (h : ∀ b w', Apt w0 w' (L ++ [bx b z.cells.toList t]) → k (.pointer (some ⟨b, 0, none⟩)) w') : Do P (zkb_ t) k w :=
  zke_ I fun b w' g hb hB => h b w' (H.addBox g hb hB)
theorem zpb_ (H : Apt w0 w L) (i : Nat) {b e : Nat} {cs : List Value} (hi : L[i]? = some (bx b cs e)) {t n off : Nat} {v : Value} (hs : szOf P t n) (hv : v.cells.size = n) (h1 : v.cells.toList.all Value.oneCell' = true) (hl : Nat.ble (off + n) cs.length = true)
    (h : ∀ w', Apt w0 w' (L.set i (bx b (cs.take off ++ v.cells.toList ++ cs.drop (off + n)) e)) → k undef w') : Do P (zab_ t (.pointer (some ⟨b, off, none⟩)) v) k w :=
  zvf_ hs hv (all_one h1) (H.box i hi) (Nat.le_of_ble_eq_true hl) fun w' g hsz hb => h w' (H.set hi (gx_of g fun q hq => by cases hq; rfl) (fun q hq => .inl hq) (fun q hq => (show q = b from hq) ▸ hb.lt) (zwh_ hb))
theorem appendH (H : Apt w0 w L) (i : Nat) {t e u sz by' n c m d : Nat} {X Y : Option Addr} {cells news : List Value} {z : Value} (hi : L[i]? = some (rwi e sz X n c cells)) (ht : P.underlying t = some (.slice e)) (I : Inf P e z sz by') (hzs : z.cells.size = sz) (hsz : 0 < sz)
    {cs : List Bool} (hS : SrcQ w Y news) (hl : news.length = m * sz) (h1 : ∀ v ∈ news, v.oneCell' = true) (hm : (n + m) * by' ≤ 140737488355328) (hmax : n + m ≤ 9223372036854775807)
    (h : ∀ X' c' w', Apt w0 w' (L.set i (rwi e sz X' (n + m) c' (cells ++ news))) → k (.slice X' (n + m) c') w') : Do P (zc_ .append #[t, t] u cs [.slice X n c, .slice Y m d]) k w :=
  zvg_ ht I hzs hsz (H.row i hi) hS hl h1 hm hmax H.gr.size fun X' c' w' hr hg hmv => h X' c' w' (H.set hi (gx_of hg fun q hq => hq) (fun q hq => by
    rcases hmv with e | e
    · exact .inl (show blk X = some q from e ▸ (show blk X' = some q from hq))
    · exact .inr (e q hq)) (fun q hq => (Row.ge hr hq).2) (zwg_ hr))
theorem buildH (H : Apt w0 w L) {t e sz by' n : Nat} {z : Value} (ht : P.underlying t = some (.slice e)) (I : Inf P e z sz by') {ps : List (Nat × Value)} (cells : List Value) (hn : n * sz ≤ 16777216) (hn' : n ≤ 9223372036854775807)
    (hf : Instr.fill (fun j => some (j * sz, sz)) (madeCells (if n * sz = 0 then #[] else z.cells) (n * sz)) ps = some cells.toArray) (hl : cells.length = n * sz)
    (h : ∀ b w', Apt w0 w' (L ++ [rwi e sz (some ⟨b, 0, none⟩) n n cells]) → k (.slice (some ⟨b, 0, none⟩) n n) w') : Do P (zh_ t n ps) k w :=
  zt_ ht I hn hn' hf hl fun b w' hb hb' g hB hr => h b w' (H.addRow g (hr _ (Nat.le_refl _)))
end
section
variable {P : Program} {k : Value → Prop}
theorem rdG {w : World} {h : Gr w w} {t off b e : Nat} {cs : List Value} {v : Value} (ht : one P t) (hb : Box w b cs e) (hc : cs[off]? = some v) : Rd P ⟨fun w' => Gr w w', w, h⟩ (zd_ t (.pointer (some ⟨b, off, none⟩))) k = k v :=
  zmc_ ht fun w' hw => ((hb.gr hw).cell off).trans hc
end
end Go.Sh
namespace Go.Proofs.Yteabbgaffgpegaa
open Go Go.Sh Go.RowKit
def ows (X : Option Addr) (c : Nat) (xs : List Int) : Thing := rwi 3 1 X xs.length c (ints xs)
section
variable {k : Value → World → Prop} {w0 w w' : World} {L : List Thing}
theorem _root_.Go.Sh.Apt.own (H : Apt w0 w L) (i : Nat) {c : Nat} {X : Option Addr} {xs : List Int} (hi : L[i]? = some (ows X c xs)) : Own 3 w w0.heap.size X c xs := H.row i hi
theorem _root_.Go.Sh.Apt.ints (H : Apt w0 w L) (i : Nat) {c : Nat} {X : Option Addr} {xs : List Int} (hi : L[i]? = some (ows X c xs)) : Ints w X xs := Own.ints (H.own i hi)
theorem _root_.Go.Sh.Apt.addOwn (H : Apt w0 w L) (g : Gr w w') {c : Nat} {X : Option Addr} {xs : List Int} (h : Own 3 w' w.heap.size X c xs) : Apt w0 w' (L ++ [ows X c xs]) := H.addRow g h
theorem apH (H : Apt w0 w L) (i : Nat) {u n c m d : Nat} {X Y : Option Addr} {xs ys : List Int} (hi : L[i]? = some (ows X c xs)) {cs : List Bool} (hY : Ints w Y ys) (hn : n = xs.length) (hm : m = ys.length) (hb : (xs.length + ys.length) * 8 ≤ 140737488355328)
    (h : ∀ X' c' w', Apt w0 w' (L.set i (ows X' c' (xs ++ ys))) → k (.slice X' (xs ++ ys).length c') w') : Do Try.prog (zc_ .append #[27, 27] u cs [.slice X n c, .slice Y m d]) k w := by
  subst hn
  subst hm
  refine appendH H i hi u27 inf3 rfl (by decide) hY.src (by rw [zyc_, Nat.mul_one]) (zud_ ys) hb (by omega) fun X' c' w' H' => ?_
  rw [← ints_append, ← List.length_append] at H'
  rw [← List.length_append]
  exact h X' c' w' H'
theorem pushH {k : Value → Value → World → Prop} (H : Apt w0 w L) (i : Nat) {u n c : Nat} {X : Option Addr} {xs : List Int} {x : Int} (hi : L[i]? = some (ows X c xs)) {cs : List Bool} (hn : n = xs.length) (hb : xs.length ≤ 1000000000)
    (h : ∀ t X' c' w', Apt w0 w' (L.set i (ows X' c' (xs ++ [x]))) → k t (.slice X' (xs ++ [x]).length c') w') : Do Try.prog (zh_ 27 1 [(0, .int .i64 x)]) (fun t w1 => Do Try.prog (zc_ .append #[27, 27] u cs [.slice X n c, t]) (k t) w1) w := by
  refine bs27 [.int .i64 x] (by decide) (by simp [Instr.fill, madeCells, Value.cells, rng1]) rfl fun b w1 hb1 hb2 g hB hr => ?_
  refine apH (H.step g) i hi (ys := [x]) (Own.ints (show Own 3 w1 w.heap.size (some ⟨b, 0, none⟩) 1 [x] from hr _ (Nat.le_refl _))) hn rfl (by simp; omega) fun X' c' w' H' => h _ X' c' w' H'
end
end Go.Proofs.Yteabbgaffgpegaa

namespace Go.Sh
open Go
structure Cuts (cs : List Int) (n : Nat) : Prop where
  len : cs.length = 4
  lo : 0 ≤ cs.getD 0 0
  h01 : cs.getD 0 0 ≤ cs.getD 1 0
  h12 : cs.getD 1 0 ≤ cs.getD 2 0
  h23 : cs.getD 2 0 ≤ cs.getD 3 0
  hi : cs.getD 3 0 ≤ n
instance (cs : List Int) (n : Nat) : Decidable (Cuts cs n) :=
  decidable_of_iff (cs.length = 4 ∧ 0 ≤ cs.getD 0 0 ∧ cs.getD 0 0 ≤ cs.getD 1 0 ∧ cs.getD 1 0 ≤ cs.getD 2 0 ∧ cs.getD 2 0 ≤ cs.getD 3 0 ∧ cs.getD 3 0 ≤ n)
    ⟨fun ⟨a, b, c, d, e, f⟩ => ⟨a, b, c, d, e, f⟩, fun h => ⟨h.len, h.lo, h.h01, h.h12, h.h23, h.hi⟩⟩
end Go.Sh
namespace Go.Proofs.Yteabbgaffgpegaa
open Go Go.Sh Go.RowKit

theorem l1Own_c {w : World} {X : Option Addr} {c n : Nat} {xs : List Int} (hx : Ints w X xs) (hn : n = xs.length) (hb : xs.length * 8 ≤ 140737488355328) {k : Value → World → Prop}
    (hk : ∀ X' c' w', Gr w w' → Own 3 w' w.heap.size X' c' xs → k (.slice X' xs.length c') w') : CallK Try.prog 80 [.slice X n c] k w := by
  subst hn
  refine enter80 ?_
  unfold S80
  refine bs27 [] (by decide) (by simp [Instr.fill, madeCells]) rfl fun b w1 hb1 hb2 hg hbox hrow => ?_
  refine ap27 (hrow _ (Nat.le_refl _)) (hx.gr hg).src (by rw [zyc_, Nat.mul_one]) (zud_ xs) (by omega) hg.size fun X' c' w2 hr hg2 => ?_
  rw [Nat.zero_add] at hr ⊢
  exact hk X' c' w2 (gr_mod hg hg2 fun q hq => by simp [blk] at hq; omega) hr

end Go.Proofs.Yteabbgaffgpegaa

namespace Go.Sh
open Go
end Go.Sh
namespace Go.Proofs.Yteabbgaffgpegaa
open Go Go.Sh Go.RowKit

def Pred (t : Nat) (fv : Value) (p : Int → Bool) (w : World) : Prop := ∀ w1, Gr w w1 → ∀ (x : Int) (k : Value → World → Prop), (∀ w2, Gr w1 w2 → k (.bool (p x)) w2) → Do Try.prog (zbd_ fv [.int .i64 x] t) k w1
theorem zai_ {w : World} {X : Option Addr} {c : Nat} {xs : List Int} {fv : Value} {p : Int → Bool} (hx : Ints w X xs) (hp : Pred 4 fv p w) {k : Value → World → Prop}
    (hk : ∀ (r : Int) w', Gr w w' → decide (0 ≤ r) = xs.any p → (0 ≤ r → r < xs.length ∧ p (xs.getD r.toNat 0) = true ∧ ∀ j : Nat, j < r → p (xs.getD j 0) = false) → k (.int .i64 r) w') :
    CallK Try.prog 61 [.slice X xs.length c, fv] k w := by
  refine enter61 ?_
  unfold S61
  simp only [go_sem, Nat.reduceEqDiff]
  refine ⟨fun f w' => ∃ i : Nat, i ≤ xs.length ∧ f 8 = .int .i64 i ∧ Gr w w' ∧ ∀ j, j < i → p (xs.getD j 0) = false, fun f _ => xs.length - (intOf (f 8)).toNat, ⟨0, Nat.zero_le _, rfl, Gr.refl w, fun j hj => absurd hj (Nat.not_lt_zero j)⟩, ?_⟩
  rintro f w1 hag ⟨i, hi, h8, hg, hpre⟩
  have f0 : f 0 = .slice X xs.length c := hag 0 (by decide)
  have f1 : f 1 = fv := hag 1 (by decide)
  have f7 : f 7 = .int .i64 xs.length := hag 7 (by decide)
  simp only [f0, f1, f7, h8, go_sem, Nat.reduceEqDiff]
  by_cases hlt : i < xs.length
  · have hlt' : (i : Int) < xs.length := by omega
    have := hx.le
    simp only [hlt', decide_true, go_sem, Nat.reduceEqDiff]
    rw [zac_ hx.ptr hlt, ld3 ((hx.gr hg).cell i hlt)]
    refine hp w1 hg _ _ fun w2 g2 => ?_
    have g2' := ze_ hg g2
    cases hb : p (xs.getD i 0)
    · simp only [go_sem, Nat.reduceEqDiff]
      rw [zp_ (by omega) (by omega)]
      refine ⟨⟨i + 1, hlt, rfl, g2', fun j hj => ?_⟩, ?_⟩
      · rcases Nat.lt_succ_iff_lt_or_eq.1 hj with h | rfl
        · exact hpre j h
        · exact hb
      · simp only [intOf]
        omega
    · simp only [go_sem, Nat.reduceEqDiff]
      refine hk i w2 g2' ?_ fun _ => ⟨hlt', hb, fun j hj => hpre j (by omega)⟩
      rw [decide_eq_true (by omega), eq_comm, List.any_eq_true]
      exact ⟨_, zcf_ hlt, hb⟩
  · simp only [show ¬ (i : Int) < xs.length from by omega, decide_false, go_sem, Nat.reduceEqDiff]
    refine hk (-1) w1 hg ?_ fun h => absurd h (by decide)
    rw [decide_eq_false (by decide), eq_comm, List.any_eq_false]
    intro x hx'
    obtain ⟨j, hj, rfl⟩ := List.getElem_of_mem hx'
    have := hpre j (by omega)
    rw [List.getD_eq_getElem?_getD, List.getElem?_eq_getElem hj] at this
    simpa using this
theorem zpg_ {w : World} {X : Option Addr} {c : Nat} {xs : List Int} {fv : Value} {p : Int → Bool} (hx : Ints w X xs) (hp : Pred 4 fv p w) {k : Value → World → Prop}
    (hk : ∀ w', Gr w w' → k (.bool (xs.any p)) w') : CallK Try.prog 101 [.slice X xs.length c, fv] k w := by
  refine enter101 ?_
  unfold S101
  refine zai_ hx hp fun r w' g h _ => ?_
  simp only [go_sem, Nat.reduceEqDiff]
  rw [h]
  exact hk w' g
end Go.Proofs.Yteabbgaffgpegaa

namespace Go.Sh
open Go
def symB (nons toks s : Int) : Bool := inB s (-toks) (nons - 1)
def zwc_ (nons toks : Int) (rs : List RuleL) (i : Nat) : Bool :=
  inB (rul rs i).1 0 (nons - 1) && decide ((rul rs i).2.length ≤ 4) && (rul rs i).2.all (symB nons toks) && !(rs.take i).any fun q => decide (rul rs i = q)
def zy_ (g : Gram) : Bool := inB g.nons 1 6 && inB g.toks 1 4 && decide (g.rules.length ≤ 16) && (List.range g.rules.length).all (zwc_ g.nons g.toks g.rules)
theorem zrk_ {n : Nat} {p : Nat → Bool} (h : ∀ j, j < n → p j = true) : (List.range n).all p = true := by
  rw [List.all_eq_true]
  intro x hx
  exact h x (List.mem_range.1 hx)
theorem ztk_ {n i : Nat} {p : Nat → Bool} (hi : i < n) (h : p i = false) : (List.range n).all p = false := by
  rw [List.all_eq_false]
  exact ⟨i, List.mem_range.2 hi, by rw [h]; decide⟩
theorem zhj_ {rs : List RuleL} {p : RuleL → Bool} {i : Nat} (hi : i < rs.length) (h : p (rul rs i) = true) : rs.any p = true := by
  rw [List.any_eq_true]
  exact ⟨_, by rw [zcd_ hi]; exact List.getElem_mem hi, h⟩
theorem zgh_ {rs : List RuleL} {p : RuleL → Bool} (h : ∀ j, j < rs.length → p (rul rs j) = false) : rs.any p = false := by
  rw [List.any_eq_false]
  intro x hx
  obtain ⟨j, hj, rfl⟩ := List.getElem_of_mem hx
  have := h j hj
  rw [zcd_ hj] at this
  simp [this]
theorem zce_ (Y : Option Addr) (c sz : Nat) : sub Y 0 c sz = Y := by
  unfold sub
  split
  · rfl
  · cases Y <;> simp [zq35]
theorem RulesF.take {F : Nat → Prop} {w : World} {X : Option Addr} {rs : List RuleL} (h : RulesF F w X rs) (i : Nat) : RulesF F w X (rs.take i) := by
  have hl : (rs.take i).length ≤ rs.length := by simp; omega
  refine ⟨by have := h.le; omega, fun hp => h.ptr (by omega), fun hp => h.foot (by omega), fun j hj => ?_⟩
  have hji : j < i := by simp at hj; omega
  rw [zii_ hji]
  exact h.row j (by omega)
end Go.Sh
namespace Go.Proofs.Yteabbgaffgpegaa
open Go Go.Sh Go.RowKit

theorem l1Symbol_c {F : Nat → Prop} {w : World} {v : Value} {gm : Gram} {s : Int} (hv : GramV F w v gm) (hn : inB gm.nons 1 6 = true) (ht : inB gm.toks 1 4 = true) {k : Value → World → Prop} (hk : ∀ w', Gr w w' → k (.bool (symB gm.nons gm.toks s)) w') :
    CallK Try.prog 108 [v, .int .i64 s] k w := by
  obtain ⟨Y, c, rfl, hc, hy⟩ := hv
  have hn' : 1 ≤ gm.nons ∧ gm.nons ≤ 6 := by simpa [inB] using hn
  have ht' : 1 ≤ gm.toks ∧ gm.toks ≤ 4 := by simpa [inB] using ht
  refine enter108 ?_
  unfold S108
  refine zfc_ fun b w1 g1 hb1 hB => ?_
  simp only [go_sem, Nat.reduceEqDiff]
  rw [ldB3 hB rfl]
  simp only [go_sem, Nat.reduceEqDiff]
  rw [ldB3 hB rfl]
  simp only [go_sem, Nat.reduceEqDiff]
  rw [zp_ (by omega) (by omega), zp_ (by omega) (by omega)]
  exact zwf_ (hk _ g1)
theorem l1Same_c {w : World} {X Y : Option Addr} {c d : Nat} {xs ys : List Int} (hx : Ints w X xs) (hy : Ints w Y ys) {k : Value → World → Prop} (hk : ∀ w', Gr w w' → k (.bool (decide (xs = ys))) w') :
    CallK Try.prog 147 [.slice X xs.length c, .slice Y ys.length d] k w := by
  refine enter147 ?_
  unfold S147
  simp only [go_sem, Nat.reduceEqDiff]
  by_cases hl : xs.length = ys.length
  rotate_left
  · simp only [Int.ofNat_inj, hl, decide_false, Bool.not_false, go_sem, Nat.reduceEqDiff]
    have := hk _ (Gr.refl w)
    rwa [decide_eq_false (fun e => hl (by rw [e]))] at this
  simp only [Int.ofNat_inj, hl, decide_true, Bool.not_true, go_sem, Nat.reduceEqDiff]
  rw [← hl]
  refine ⟨fun f w' => ∃ i : Nat, i ≤ xs.length ∧ f 13 = .int .i64 i ∧ Gr w w' ∧ xs.take i = ys.take i, fun f _ => xs.length - (intOf (f 13)).toNat, ⟨0, Nat.zero_le _, rfl, Gr.refl w, rfl⟩, ?_⟩
  rintro f w1 hag ⟨i, hi, h13, hg, hpre⟩
  have h0 : f 0 = .slice X xs.length c := hag 0 (by decide)
  have h1 : f 1 = .slice Y xs.length d := hag 1 (by decide)
  have h12 : f 12 = .int .i64 xs.length := hag 12 (by decide)
  simp only [h0, h1, h12, h13, go_sem, Nat.reduceEqDiff]
  by_cases hlt : i < xs.length
  · have hlt' : (i : Int) < xs.length := by omega
    have := hx.le
    simp only [hlt', decide_true, go_sem, Nat.reduceEqDiff]
    rw [zac_ hx.ptr hlt, ld3 ((hx.gr (ze_ hg (zhb_ w1))).cell i hlt), zac_ (hl ▸ hy.ptr) hlt, ld3 ((hy.gr (ze_ hg (zhb_ w1))).cell i (by omega))]
    simp only [go_sem, Nat.reduceEqDiff]
    by_cases he : xs.getD i 0 = ys.getD i 0
    · simp only [he, decide_true, Bool.not_true, go_sem, Nat.reduceEqDiff]
      rw [zp_ (by omega) (by omega)]
      refine ⟨⟨i + 1, hlt, rfl, ze_ hg (zhb_ w1), ?_⟩, ?_⟩
      · rw [zte_ hlt, zte_ (by omega), hpre, he]
      · simp only [intOf]
        omega
    · simp only [he, decide_false, Bool.not_false, go_sem, Nat.reduceEqDiff]
      have := hk _ (ze_ hg (zhb_ w1))
      rwa [decide_eq_false (fun e => he (by rw [e]))] at this
  · simp only [show ¬ (i : Int) < xs.length from by omega, decide_false, go_sem, Nat.reduceEqDiff]
    have := hk _ hg
    rwa [decide_eq_true] at this
    rwa [List.take_of_length_le (by omega), List.take_of_length_le (by omega)] at hpre
theorem zhh_ {F E : Nat → Prop} {w : World} {v u : Value} {r q : RuleL} (hv : RuleV F w v r) (hu : RuleV E w u q) {k : Value → World → Prop} (hk : ∀ w', Gr w w' → k (.bool (decide (r = q))) w') :
    CallK Try.prog 109 [v, u] k w := by
  obtain ⟨Y, c, rfl, hc, hy⟩ := hv
  obtain ⟨Z, d, rfl, hd, hz⟩ := hu
  refine enter109 ?_
  unfold S109
  refine zfc_ fun b w1 g1 hb1 hb => ?_
  refine zfc_ fun b' w2 g2 hb2 hb' => ?_
  have hb := hb.gr g2
  have g := ze_ g1 g2
  simp only [go_sem, Nat.reduceEqDiff]
  rw [ldB3 hb rfl, ldB3 hb' rfl]
  simp only [go_sem, Nat.reduceEqDiff]
  by_cases h : r.1 = q.1
  · simp only [h, decide_true, go_sem, Nat.reduceEqDiff]
    rw [zjd_ hb rfl]
    rw [zjd_ hb' rfl]
    refine l1Same_c (hy.is.gr g) (hz.is.gr g) fun w3 g3 => ?_
    have := hk w3 (ze_ g g3)
    by_cases h2 : r.2 = q.2
    · simp only [h2, decide_true, go_sem, Nat.reduceEqDiff]
      rwa [decide_eq_true (Prod.ext h h2)] at this
    · simp only [h2, decide_false, go_sem, Nat.reduceEqDiff]
      rwa [decide_eq_false (fun e => h2 (by rw [e]))] at this
  · simp only [h, decide_false, go_sem, Nat.reduceEqDiff]
    have := hk w2 g
    rwa [decide_eq_false (fun e => h (by rw [e]))] at this
theorem zkf_ {F : Nat → Prop} {w : World} {v : Value} {gm : Gram} (hv : GramV F w v gm) {k : Value → World → Prop} (hk : ∀ w', Gr w w' → k (.bool (zy_ gm)) w') :
    CallK Try.prog 49 [v] k w := by
  have hv0 := hv
  obtain ⟨Y, c, rfl, hc, hy⟩ := hv
  refine enter49 ?_
  unfold S49
  refine zfc_ fun b w1 g1 hb1 hB => ?_
  simp only [go_sem, Nat.reduceEqDiff]
  rw [ldB3 hB rfl]
  refine zwf_ ?_
  cases hn : inB gm.nons 1 6
  · simp only [Bool.not_false, go_sem, Nat.reduceEqDiff]
    have := hk _ g1
    rwa [show zy_ gm = false from by simp [zy_, hn]] at this
  simp only [Bool.not_true, go_sem, Nat.reduceEqDiff]
  rw [ldB3 hB rfl]
  refine zwf_ ?_
  cases ht : inB gm.toks 1 4
  · simp only [Bool.not_false, go_sem, Nat.reduceEqDiff]
    have := hk _ g1
    rwa [show zy_ gm = false from by simp [zy_, ht]] at this
  simp only [Bool.not_true, go_sem, Nat.reduceEqDiff]
  rw [ldB24 hB rfl]
  simp only [go_sem, Nat.reduceEqDiff]
  by_cases hl : gm.rules.length ≤ 16
  rotate_left
  · simp only [show (16 : Int) < gm.rules.length from by omega, decide_true, go_sem, Nat.reduceEqDiff]
    have := hk _ g1
    rwa [show zy_ gm = false from by simp [zy_, hl]] at this
  simp only [show ¬ (16 : Int) < gm.rules.length from by omega, decide_false, go_sem, Nat.reduceEqDiff]
  rw [ldB24 hB rfl]
  simp only [go_sem, Nat.reduceEqDiff]
  have hn' : 1 ≤ gm.nons ∧ gm.nons ≤ 6 := by simpa [inB] using hn
  have ht' : 1 ≤ gm.toks ∧ gm.toks ≤ 4 := by simpa [inB] using ht
  refine ⟨fun f w' => ∃ i : Nat, i ≤ gm.rules.length ∧ f 28 = .int .i64 i ∧ Gr w1 w' ∧ ∀ j, j < i → zwc_ gm.nons gm.toks gm.rules j = true, fun f _ => gm.rules.length - (intOf (f 28)).toNat, ⟨0, Nat.zero_le _, rfl, Gr.refl w1, fun j hj => absurd hj (Nat.not_lt_zero j)⟩, ?_⟩
  rintro f w2 hag ⟨i, hi, h28, g2, hpre⟩
  have f1 : f 1 = .pointer (some ⟨b, 0, none⟩) := hag 1 (by decide)
  have f26 : f 26 = .slice Y gm.rules.length c := hag 26 (by decide)
  have f27 : f 27 = .int .i64 gm.rules.length := hag 27 (by decide)
  simp only [f1, f26, f27, h28, go_sem, Nat.reduceEqDiff]
  by_cases hlt : i < gm.rules.length
  · have hlt' : (i : Int) < gm.rules.length := by omega
    simp only [hlt', decide_true, go_sem, Nat.reduceEqDiff]
    have g := ze_ g1 g2
    rw [zxd_ hy.ptr hlt]
    refine zuh_ zvc_ zdc_ (hy.gr g) hlt fun v hv => ?_
    obtain ⟨Z, d, rfl, hd, hz⟩ := hv
    refine zke_ zgc_ fun b3 w3 g3 hb3 h3 => ?_
    have n3 := (hB.gr g2).ne hb3
    refine zvf_ zdc_ rfl (by intro u hu; simp [Value.cells] at hu; rcases hu with rfl | rfl <;> rfl) h3 (by simp [Value.cells]) fun w4 g4 s4 h4 => ?_
    have hB2 := (hB.gr (ze_ g2 g3)).put g4 n3
    have g' := zyf_ (ze_ g g3) g4 (Nat.le_trans g.size hb3)
    have k0 : zwc_ gm.nons gm.toks gm.rules i = false → ∀ w', Gr w w' → k (.bool false) w' := fun h w' gw => by
      have := hk w' gw
      rwa [show zy_ gm = false from by simp only [zy_, ztk_ hlt h, Bool.and_false]] at this
    simp only [go_sem, Nat.reduceEqDiff]
    rw [ldB3 h4 rfl, ldB3 hB2 rfl]
    simp only [go_sem, Nat.reduceEqDiff]
    rw [zp_ (by omega) (by omega)]
    refine zwf_ ?_
    cases hr : inB (rul gm.rules i).1 0 (gm.nons - 1)
    · simp only [Bool.not_false, go_sem, Nat.reduceEqDiff]
      exact k0 (by simp [zwc_, hr]) _ g'
    simp only [Bool.not_true, go_sem, Nat.reduceEqDiff]
    rw [zjd_ h4 rfl]
    simp only [go_sem, Nat.reduceEqDiff]
    by_cases h5 : (rul gm.rules i).2.length ≤ 4
    rotate_left
    · simp only [show (4 : Int) < (rul gm.rules i).2.length from by omega, decide_true, go_sem, Nat.reduceEqDiff]
      exact k0 (by simp [zwc_, h5]) _ g'
    simp only [show ¬ (4 : Int) < (rul gm.rules i).2.length from by omega, decide_false, go_sem, Nat.reduceEqDiff]
    rw [zjd_ h4 rfl]
    simp only [go_sem, Nat.reduceEqDiff]
    refine ⟨fun f' w' => ∃ j : Nat, j ≤ (rul gm.rules i).2.length ∧ f' 49 = .int .i64 j ∧ Gr w4 w' ∧ ∀ l, l < j → symB gm.nons gm.toks ((rul gm.rules i).2.getD l 0) = true, fun f' _ => (rul gm.rules i).2.length - (intOf (f' 49)).toNat, ⟨0, Nat.zero_le _, rfl, Gr.refl w4, fun j hj => absurd hj (Nat.not_lt_zero j)⟩, ?_⟩
    rintro f' w5 hag' ⟨j, hj, h49, g5, hpre'⟩
    have e1 : f' 1 = .pointer (some ⟨b, 0, none⟩) := (hag' 1 (by decide)).trans f1
    have e3 : f' 3 = .int .i64 i := hag' 3 (by decide)
    have e4 : f' 4 = .pointer (some ⟨b3, 0, none⟩) := hag' 4 (by decide)
    have e28 : f' 28 = .int .i64 i := (hag' 28 (by decide)).trans h28
    have e47 : f' 47 = .slice Z (rul gm.rules i).2.length d := hag' 47 (by decide)
    have e48 : f' 48 = .int .i64 (rul gm.rules i).2.length := hag' 48 (by decide)
    have gw5 := ze_ g' g5
    have gw45 : Gr w2 w5 := ze_ (zyf_ g3 g4 hb3) g5
    simp only [e1, e47, e48, h49, go_sem, Nat.reduceEqDiff]
    by_cases hlt2 : j < (rul gm.rules i).2.length
    · have hlt2' : (j : Int) < (rul gm.rules i).2.length := by omega
      simp only [hlt2', decide_true, go_sem, Nat.reduceEqDiff]
      rw [zac_ hz.is.ptr hlt2, ld3 ((hz.is.gr gw45).cell j hlt2), zfb_ zyb_ sz26 rfl (hB2.gr g5)]
      refine l1Symbol_c (gm := gm) ⟨Y, c, rfl, hc, hy.gr gw5⟩ hn ht fun w6 g6 => ?_
      simp only [go_sem, Nat.reduceEqDiff]
      cases hs : symB gm.nons gm.toks ((rul gm.rules i).2.getD j 0)
      · simp only [Bool.not_false, go_sem, Nat.reduceEqDiff]
        exact k0 (by simp only [zwc_, zfj_ hlt2 hs, Bool.and_false, Bool.false_and]) _ (ze_ gw5 g6)
      · simp only [Bool.not_true, go_sem, Nat.reduceEqDiff]
        rw [zp_ (by omega) (by omega)]
        refine ⟨⟨j + 1, hlt2, rfl, ze_ g5 g6, fun l hl => ?_⟩, ?_⟩
        · rcases Nat.lt_succ_iff_lt_or_eq.1 hl with h | rfl
          · exact hpre' l h
          · exact hs
        · simp only [intOf]
          omega
    simp only [show ¬ (j : Int) < (rul gm.rules i).2.length from by omega, decide_false, go_sem, Nat.reduceEqDiff]
    have hall : (rul gm.rules i).2.all (symB gm.nons gm.toks) = true := all_of fun l hl => hpre' l (by omega)
    simp only [e1, e3, go_sem, Nat.reduceEqDiff]
    rw [ldB24 (hB2.gr g5) rfl]
    rw [slh24 (by omega) (by omega), zce_]
    simp only [Int.toNat_natCast, go_sem, Nat.reduceEqDiff]
    have hti : (gm.rules.take i).length = i := by simp; omega
    have hyt : RulesF F w5 Y (gm.rules.take i) := (hy.gr gw5).take i
    refine ⟨fun f' w' => ∃ j : Nat, j ≤ i ∧ f' 63 = .int .i64 j ∧ Gr w5 w' ∧ ∀ l, l < j → decide (rul gm.rules i = rul gm.rules l) = false, fun f' _ => i - (intOf (f' 63)).toNat, ⟨0, Nat.zero_le _, rfl, Gr.refl w5, fun j hj => absurd hj (Nat.not_lt_zero j)⟩, ?_⟩
    rintro f2 w6 hag2 ⟨m, hm, h63, g6, hpre2⟩
    have d4 : f2 4 = .pointer (some ⟨b3, 0, none⟩) := (hag2 4 (by decide)).trans e4
    have d28 : f2 28 = .int .i64 i := (hag2 28 (by decide)).trans e28
    have d61 : f2 61 = .slice Y i c := hag2 61 (by decide)
    have d62 : f2 62 = .int .i64 i := hag2 62 (by decide)
    have gw6 := ze_ gw5 g6
    simp only [d4, d28, d61, d62, h63, go_sem, Nat.reduceEqDiff]
    by_cases hlt3 : m < i
    · have hlt3' : (m : Int) < i := by omega
      simp only [hlt3', decide_true, go_sem, Nat.reduceEqDiff]
      rw [zxd_ (fun _ => hy.ptr (by omega)) hlt3]
      refine zuh_ zvc_ zdc_ (hy.gr gw6) (show m < gm.rules.length by omega) fun v hv => ?_
      obtain ⟨Z', d', rfl, hd', hz'⟩ := hv
      refine zke_ zgc_ fun b7 w7 g7 hb7 h7 => ?_
      have h46 := (h4.gr (ze_ g5 g6))
      have n7 := h46.ne hb7
      have h47 := h46.gr g7
      refine zvf_ zdc_ rfl (by intro u hu; simp [Value.cells] at hu; rcases hu with rfl | rfl <;> rfl) h7 (by simp [Value.cells]) fun w8 g8 s8 h8 => ?_
      have h48 := h47.put g8 n7
      have gw8 := zyf_ (ze_ gw6 g7) g8 (Nat.le_trans gw6.size hb7)
      have g58 := zyf_ (ze_ g6 g7) g8 (Nat.le_trans g6.size hb7)
      rw [zfb_ zvc_ zdc_ rfl h48, zfb_ zvc_ zdc_ rfl h8]
      refine zhh_ (r := rul gm.rules i) (q := rul gm.rules m) (F := F) (E := F) ⟨Z, d, rfl, hd, hz.gr (ze_ gw45 g58)⟩ ⟨Z', d', rfl, hd', hz'.gr (zyf_ g7 g8 hb7)⟩ fun w9 g9 => ?_
      by_cases he : rul gm.rules i = rul gm.rules m
      · simp only [he, decide_true, go_sem, Nat.reduceEqDiff]
        refine k0 ?_ _ (ze_ gw8 g9)
        have : (gm.rules.take i).any (fun q => decide (rul gm.rules i = q)) = true := zhj_ (i := m) (by omega) (by rw [zii_ hlt3]; exact decide_eq_true he)
        simp only [zwc_, this, Bool.not_true, Bool.and_false]
      · simp only [he, decide_false, go_sem, Nat.reduceEqDiff]
        rw [zp_ (by omega) (by omega)]
        refine ⟨⟨m + 1, hlt3, rfl, ze_ g58 g9, fun l hl => ?_⟩, ?_⟩
        · rcases Nat.lt_succ_iff_lt_or_eq.1 hl with h | rfl
          · exact hpre2 l h
          · exact decide_eq_false he
        · simp only [intOf]
          omega
    · simp only [show ¬ (m : Int) < i from by omega, decide_false, go_sem, Nat.reduceEqDiff]
      rw [zp_ (by omega) (by omega)]
      refine ⟨⟨i + 1, hlt, rfl, ze_ (ze_ g2 gw45) g6, fun l hl => ?_⟩, ?_⟩
      · rcases Nat.lt_succ_iff_lt_or_eq.1 hl with h | rfl
        · exact hpre l h
        · have : (gm.rules.take l).any (fun q => decide (rul gm.rules l = q)) = false := zgh_ fun m' hm' => by
            rw [zii_ (by omega)]
            exact hpre2 m' (by omega)
          simp only [zwc_, hr, h5, hall, this, decide_true, Bool.not_false, Bool.and_self]
      · simp only [intOf]
        omega
  · simp only [show ¬ (i : Int) < gm.rules.length from by omega, decide_false, go_sem, Nat.reduceEqDiff]
    have := hk _ (ze_ g1 g2)
    rwa [show zy_ gm = true from by simp only [zy_, hn, ht, hl, decide_true, Bool.true_and]; exact zrk_ fun j hj => hpre j (by omega)] at this
end Go.Proofs.Yteabbgaffgpegaa
