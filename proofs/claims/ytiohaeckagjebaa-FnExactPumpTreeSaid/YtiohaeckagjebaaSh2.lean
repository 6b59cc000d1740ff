/- The frame calculus, third part: what each operation comes to. -/
import Derived.Test.YtiohaeckagjebaaShA
import Derived.Laws.AppendOwn
import Derived.Laws.OwnMore
import Derived.Laws.MakeOwn
import Derived.Laws.NewBlocks
import Derived.Laws.Entries
import Derived.ChangeKeysEq
import Derived.IntWalk
set_option linter.unusedVariables false
set_option linter.unusedSimpArgs false
namespace Go.Sh
open Go

/-! ### Facts on types -/
def szOf (P : Program) (e : TypeId) (n : Nat) : Prop := ∃ i, P.info? e = some i ∧ i.size = n
def one (P : Program) (t : TypeId) : Prop := ∃ d, P.underlying t = some d ∧ (match d with | .struct _ => False | .array _ _ => False | _ => True)
def agg (P : Program) (t : TypeId) : Prop := ∃ d, P.underlying t = some d ∧ (match d with | .struct _ => True | .array _ _ => True | _ => False)
def fld (P : Program) (t : TypeId) (i off : Nat) : Prop := ∃ fs f n, P.underlying t = some (.struct fs) ∧ fs[i]? = some f ∧ f.offset = off ∧ szOf P f.type n ∧ n ≠ 0
theorem szOf_of {P : Program} {e : TypeId} {n : Nat} (h : (P.info? e).map (·.size) = some n) : szOf P e n := by
  cases hi : P.info? e with
  | none => rw [hi] at h; cases h
  | some i => rw [hi] at h; exact ⟨i, hi, by simpa using h⟩
def oneB (P : Program) (t : TypeId) : Bool := match P.underlying t with | some (.struct _) => false | some (.array _ _) => false | some _ => true | none => false
def aggB (P : Program) (t : TypeId) : Bool := match P.underlying t with | some (.struct _) => true | some (.array _ _) => true | _ => false
theorem one_of {P : Program} {t : TypeId} (h : oneB P t = true) : one P t := by
  unfold oneB at h
  cases hu : P.underlying t with
  | none => rw [hu] at h; cases h
  | some d => rw [hu] at h; exact ⟨d, hu, by cases d <;> first | trivial | (cases h)⟩
theorem agg_of {P : Program} {t : TypeId} (h : aggB P t = true) : agg P t := by
  unfold aggB at h
  cases hu : P.underlying t with
  | none => rw [hu] at h; cases h
  | some d => rw [hu] at h; exact ⟨d, hu, by cases d <;> first | trivial | (cases h)⟩
def fldB (P : Program) (t : TypeId) (i off : Nat) : Bool := match P.underlying t with
  | some (.struct fs) => match fs[i]? with
    | some f => f.offset == off && (match P.info? f.type with | some n => n.size != 0 | none => false)
    | none => false
  | _ => false
theorem fld_of {P : Program} {t : TypeId} {i off : Nat} (h : fldB P t i off = true) : fld P t i off := by
  unfold fldB at h
  split at h
  · rename_i fs hu
    split at h
    · rename_i f hf
      simp only [Bool.and_eq_true, beq_iff_eq] at h
      obtain ⟨h1, h2⟩ := h
      split at h2
      · rename_i n hn
        exact ⟨fs, f, n.size, hu, hf, h1, ⟨n, hn, rfl⟩, by simpa using h2⟩
      · cases h2
    · cases h
  · cases h

section
variable {P : Program} {S : WS} {k : Value → Prop}
theorem run_info {t : TypeId} {i : TypeInfo} (h : P.info? t = some i) (w : World) : (typeInfo t).run P w = .ok i w := run_typeInfo w h
theorem run_size {e : TypeId} {n : Nat} (h : szOf P e n) (w : World) : (sizeOf e).run P w = .ok n w := by
  obtain ⟨i, hi, hn⟩ := h
  simp [sizeOf, run_info hi, hn]

/-! ### Numbers and bools -/
theorem guard_int (op : BinOp) (t : TypeId) (x y : Operand) (ka kb : IntKind) (a b : Int) (w : World) : (eqGuard op t x y (.int ka a) (.int kb b)).run P w = .ok () w := by
  unfold eqGuard
  cases op <;> rfl
theorem guard_bool (op : BinOp) (t : TypeId) (x y : Operand) (a b : Bool) (w : World) : (eqGuard op t x y (.bool a) (.bool b)).run P w = .ok () w := by
  unfold eqGuard
  cases op <;> rfl
theorem guard_str (op : BinOp) (t : TypeId) (x y : Operand) (a b : ByteArray) (w : World) : (eqGuard op t x y (.string a) (.string b)).run P w = .ok () w := by
  unfold eqGuard
  cases op <;> rfl
theorem rd_bin {op : BinOp} {t : TypeId} {c : Bool} {kd : IntKind} {x y : Int} {v : Value} (h : ∀ w, (binOp op t (.int kd x) (.int kd y)).run P w = .ok v w) :
    Rd P S (sBin op t c (.int kd x) (.int kd y)) k = k v := rd_eq fun w _ => by
  simp only [sBin, Sem.run_bind, guard_int, Result.andThen, h]
  rfl
@[go_sem] theorem bin_add {t : TypeId} {c : Bool} {kd : IntKind} {x y : Int} : Rd P S (sBin .add t c (.int kd x) (.int kd y)) k = k (.int kd (kd.wrap (x + y))) := rd_bin fun w => by simp [binOp, Op.intArith]
@[go_sem] theorem bin_sub {t : TypeId} {c : Bool} {kd : IntKind} {x y : Int} : Rd P S (sBin .sub t c (.int kd x) (.int kd y)) k = k (.int kd (kd.wrap (x - y))) := rd_bin fun w => by simp [binOp, Op.intArith]
@[go_sem] theorem bin_mul {t : TypeId} {c : Bool} {kd : IntKind} {x y : Int} : Rd P S (sBin .mul t c (.int kd x) (.int kd y)) k = k (.int kd (kd.wrap (x * y))) := rd_bin fun w => by simp [binOp, Op.intArith]
@[go_sem] theorem bin_eql {t : TypeId} {c : Bool} {kd : IntKind} {x y : Int} : Rd P S (sBin .eql t c (.int kd x) (.int kd y)) k = k (.bool (decide (x = y))) := rd_bin fun w => by
  simp [binOp, Op.intCmp]
  rfl
@[go_sem] theorem bin_neq {t : TypeId} {c : Bool} {kd : IntKind} {x y : Int} : Rd P S (sBin .neq t c (.int kd x) (.int kd y)) k = k (.bool (!decide (x = y))) := rd_bin fun w => by
  simp [binOp, Op.intCmp]
  rfl
@[go_sem] theorem bin_lss {t : TypeId} {c : Bool} {kd : IntKind} {x y : Int} : Rd P S (sBin .lss t c (.int kd x) (.int kd y)) k = k (.bool (decide (x < y))) := rd_bin fun w => by simp [binOp, Op.intCmp]
@[go_sem] theorem bin_leq {t : TypeId} {c : Bool} {kd : IntKind} {x y : Int} : Rd P S (sBin .leq t c (.int kd x) (.int kd y)) k = k (.bool (decide (x ≤ y))) := rd_bin fun w => by simp [binOp, Op.intCmp]
@[go_sem] theorem bin_gtr {t : TypeId} {c : Bool} {kd : IntKind} {x y : Int} : Rd P S (sBin .gtr t c (.int kd x) (.int kd y)) k = k (.bool (decide (y < x))) := rd_bin fun w => by simp [binOp, Op.intCmp]
@[go_sem] theorem bin_geq {t : TypeId} {c : Bool} {kd : IntKind} {x y : Int} : Rd P S (sBin .geq t c (.int kd x) (.int kd y)) k = k (.bool (decide (y ≤ x))) := rd_bin fun w => by simp [binOp, Op.intCmp]
theorem bin_quo {t : TypeId} {c : Bool} {kd : IntKind} {x y : Int} (h : y ≠ 0) : Rd P S (sBin .quo t c (.int kd x) (.int kd y)) k = k (.int kd (kd.wrap (x.tdiv y))) := rd_bin fun w => by simp [binOp, Op.intDiv, h]
theorem bin_rem {t : TypeId} {c : Bool} {kd : IntKind} {x y : Int} (h : y ≠ 0) : Rd P S (sBin .rem t c (.int kd x) (.int kd y)) k = k (.int kd (x.tmod y)) := rd_bin fun w => by simp [binOp, Op.intDiv, h]
theorem bin_bool {op : BinOp} {t : TypeId} {c : Bool} {x y : Bool} {v : Value} (h : ∀ w, (binOp op t (.bool x) (.bool y)).run P w = .ok v w) :
    Rd P S (sBin op t c (.bool x) (.bool y)) k = k v := rd_eq fun w _ => by
  simp only [sBin, Sem.run_bind, guard_bool, Result.andThen, h]
  rfl
theorem run_equal_bool {t : TypeId} {x y : Bool} (ht : P.underlying t = some .bool) (d : Nat) (w : World) : (Op.equalIn (d + 1) t (.bool x) (.bool y)).run P w = .ok (x == y) w := by
  simp [Op.equalIn, run_underlying ht]
@[go_sem] theorem bin_eql_bool {t : TypeId} {c : Bool} {x y : Bool} (ht : P.underlying t = some .bool) : Rd P S (sBin .eql t c (.bool x) (.bool y)) k = k (.bool (x == y)) := bin_bool fun w => by
  show Sem.run P (do pure (Value.bool (← Op.equalIn (9999 + 1) t (.bool x) (.bool y)))) w = _
  simp only [Sem.run_bind, run_equal_bool ht 9999 w, Result.andThen]
  rfl
@[go_sem] theorem bin_neq_bool {t : TypeId} {c : Bool} {x y : Bool} (ht : P.underlying t = some .bool) : Rd P S (sBin .neq t c (.bool x) (.bool y)) k = k (.bool (!(x == y))) := bin_bool fun w => by
  show Sem.run P (do pure (Value.bool (!(← Op.equalIn (9999 + 1) t (.bool x) (.bool y))))) w = _
  simp only [Sem.run_bind, run_equal_bool ht 9999 w, Result.andThen]
  rfl
@[go_sem] theorem un_not {x : Bool} : Rd P S (sUn .not (.bool x)) k = k (.bool !x) := rd_eq fun w _ => rfl
@[go_sem] theorem un_neg {kd : IntKind} {x : Int} : Rd P S (sUn .neg (.int kd x)) k = k (.int kd (kd.wrap (-x))) := rd_eq fun w _ => by
  simp [sUn, Op.unary, Op.intArith]
@[go_sem] theorem pick_true {a b : Value} : Rd P S (sPick (.bool true) a b) k = k a := rd_eq fun w _ => rfl
@[go_sem] theorem pick_false {a b : Value} : Rd P S (sPick (.bool false) a b) k = k b := rd_eq fun w _ => rfl
theorem pick_bool {c : Bool} {a b : Value} : Rd P S (sPick (.bool c) a b) k = k (if c then a else b) := rd_eq fun w _ => rfl
@[go_sem] theorem extract_two_0 {a b : Value} : Rd P S (sExtract (.tuple #[a, b]) 0) k = k a := rd_eq fun w _ => rfl
@[go_sem] theorem extract_two_1 {a b : Value} : Rd P S (sExtract (.tuple #[a, b]) 1) k = k b := rd_eq fun w _ => rfl
@[go_sem] theorem extract_three_0 {a b c : Value} : Rd P S (sExtract (.tuple #[a, b, c]) 0) k = k a := rd_eq fun w _ => rfl
@[go_sem] theorem extract_three_1 {a b c : Value} : Rd P S (sExtract (.tuple #[a, b, c]) 1) k = k b := rd_eq fun w _ => rfl
@[go_sem] theorem extract_three_2 {a b c : Value} : Rd P S (sExtract (.tuple #[a, b, c]) 2) k = k c := rd_eq fun w _ => rfl
@[go_sem] theorem makeFunc_ {fn : Fn} {a b : List Value} : Rd P S (sMakeFunc fn a b) k = k (.func fn a.toArray b.toArray) := rd_eq fun w _ => rfl
@[go_sem] theorem nilCheck_pointer {a : Addr} : Rd P S (sNilCheck (.pointer (some a))) k = k (.pointer (some a)) := rd_eq fun w _ => rfl
@[go_sem] theorem nilCheck_func {g : FuncId} {a b : Array Value} : Rd P S (sNilCheck (.func (.func g) a b)) k = k (.func (.func g) a b) := rd_eq fun w _ => rfl
theorem min_int {kd : IntKind} {x y : Int} {ts : Array TypeId} {t : TypeId} {cs : List Bool} : Rd P S (sBuiltin .min ts t cs [.int kd x, .int kd y]) k = k (.int kd (if y < x then y else x)) := rd_eq fun w _ => by
  simp [sBuiltin, builtin, Builtin.min_, Builtin.min2]
theorem max_int {kd : IntKind} {x y : Int} {ts : Array TypeId} {t : TypeId} {cs : List Bool} : Rd P S (sBuiltin .max ts t cs [.int kd x, .int kd y]) k = k (.int kd (if x < y then y else x)) := rd_eq fun w _ => by
  simp [sBuiltin, builtin, Builtin.max_, Builtin.max2]
theorem len_slice {t e : TypeId} (ht : P.underlying t = some (.slice e)) {u : TypeId} {cs : List Bool} {A : Option Addr} {n c : Nat} : Rd P S (sBuiltin .len #[t] u cs [.slice A n c]) k = k (.int .i64 n) := rd_eq fun w _ => by
  simp [sBuiltin, builtin, Builtin.len_, run_underlying ht, goInt]

/-! ### Conditions and guards -/
@[go_sem] theorem cond_true' {x y : Prop} : CondK (.bool true) x y = x := rfl
@[go_sem] theorem cond_false' {x y : Prop} : CondK (.bool false) x y = y := rfl
theorem cond_split {b : Bool} {x y : Prop} (hx : b = true → x) (hy : b = false → y) : CondK (.bool b) x y := by
  cases b
  · exact hy rfl
  · exact hx rfl
@[go_sem] theorem guard_tt {run : (Value → World → Prop) → World → Prop} {k : Value → World → Prop} {w : World} : GuardK (.bool true) true run k w = run k w := rfl
@[go_sem] theorem guard_ff {run : (Value → World → Prop) → World → Prop} {k : Value → World → Prop} {w : World} : GuardK (.bool false) false run k w = run k w := rfl
@[go_sem] theorem guard_tf {run : (Value → World → Prop) → World → Prop} {k : Value → World → Prop} {w : World} : GuardK (.bool true) false run k w = k undef w := rfl
@[go_sem] theorem guard_ft {run : (Value → World → Prop) → World → Prop} {k : Value → World → Prop} {w : World} : GuardK (.bool false) true run k w = k undef w := rfl
@[go_sem] theorem guard_undef {want : Bool} {run : (Value → World → Prop) → World → Prop} {k : Value → World → Prop} {w : World} : GuardK undef want run k w = k undef w := rfl

/-! ### Ways out, frames -/
@[go_sem] theorem seqQ_normal {N : F → World → Prop} {Q : Exit → F → World → Prop} {f : F} {w : World} : seqQ N Q .normal f w = N f w := rfl
@[go_sem] theorem seqQ_ret {N : F → World → Prop} {Q : Exit → F → World → Prop} {f : F} {w : World} : seqQ N Q .ret f w = Q .ret f w := rfl
@[go_sem] theorem seqQ_exit {N : F → World → Prop} {Q : Exit → F → World → Prop} {i : Nat} {f : F} {w : World} : seqQ N Q (.exit i) f w = Q (.exit i) f w := rfl
@[go_sem] theorem blockQ_ret {id : Nat} {Q : Exit → F → World → Prop} {f : F} {w : World} : blockQ id Q .ret f w = Q .ret f w := rfl
@[go_sem] theorem blockQ_normal {id : Nat} {Q : Exit → F → World → Prop} {f : F} {w : World} : blockQ id Q .normal f w = Q .normal f w := rfl
@[go_sem] theorem blockQ_exit {id i : Nat} {Q : Exit → F → World → Prop} {f : F} {w : World} : blockQ id Q (.exit i) f w = if i = id then Q .normal f w else Q (.exit i) f w := by
  by_cases h : i = id
  · subst h
    simp [blockQ]
  · have hb : Nat.beq i id = false := by
      cases h' : Nat.beq i id
      · rfl
      · exact absurd (Nat.eq_of_beq_eq_true h') h
    simp [blockQ, h, hb]
@[go_sem] theorem bodyQ_ret {P : Program} {rs : List ResultVar} {k : Value → World → Prop} {f : F} {w : World} : bodyQ P rs k .ret f w = resK P rs f [] (oneOf k) w := rfl
@[go_sem] theorem bodyQ_normal {P : Program} {rs : List ResultVar} {k : Value → World → Prop} {f : F} {w : World} : bodyQ P rs k .normal f w = resK P rs f [] (oneOf k) w := rfl
@[go_sem] theorem resK_nil {P : Program} {f : F} {acc : List Value} {k : List Value → World → Prop} {w : World} : resK P [] f acc k w = k acc w := rfl
@[go_sem] theorem resK_tmp {P : Program} {t : Tmp} {rs : List ResultVar} {f : F} {acc : List Value} {k : List Value → World → Prop} {w : World} : resK P (.tmp t :: rs) f acc k w = resK P rs f (acc ++ [f t]) k w := rfl
@[go_sem] theorem resK_cell {P : Program} {c t : Nat} {rs : List ResultVar} {f : F} {acc : List Value} {k : List Value → World → Prop} {w : World} : resK P (.cell c t :: rs) f acc k w = Rd P (WS.at w) (sLoadVar t (f c)) fun v => resK P rs f (acc ++ [v]) k w := rfl
@[go_sem] theorem oneOf_one {k : Value → World → Prop} {v : Value} {w : World} : oneOf k [v] w = k v w := rfl
@[go_sem] theorem oneOf_one' {k : Value → World → Prop} {v : Value} {w : World} : oneOf k ([] ++ [v]) w = k v w := rfl
@[go_sem] theorem oneOf_two' {k : Value → World → Prop} {u v : Value} {w : World} : oneOf k ([] ++ [u] ++ [v]) w = k (.tuple #[u, v]) w := rfl
@[go_sem] theorem oneOf_three' {k : Value → World → Prop} {u v x : Value} {w : World} : oneOf k ([] ++ [u] ++ [v] ++ [x]) w = k (.tuple #[u, v, x]) w := rfl
@[go_sem] theorem oneOf_nil {k : Value → World → Prop} {w : World} : oneOf k [] w = k (.tuple #[]) w := rfl
@[go_sem] theorem ite_T {α : Sort _} {x y : α} : (if True then x else y) = x := if_pos trivial
@[go_sem] theorem ite_F {α : Sort _} {x y : α} : (if False then x else y) = y := if_neg (fun h => h)
@[go_sem] theorem join_ {b : (F → World → Prop) → Prop} {n : F → World → Prop} : Join b n = b n := rfl
@[go_sem] theorem upd_at (f : F) (d t : Nat) (v : Value) : F.upd f d v t = if t = d then v else f t := by
  by_cases h : t = d
  · subst h
    simp [F.upd_same]
  · simp [F.upd_ne f v h, h]

/-! ### Addresses -/
def ad (A : Option Addr) : Addr := A.getD ⟨0, 0, none⟩
@[go_sem] theorem add_plain (b j i : Nat) : (⟨b, j, none⟩ : Addr).add i = ⟨b, j + i, none⟩ := by
  unfold Addr.add
  split
  · subst_vars; rfl
  · rfl
@[go_sem] theorem add_zero' (a : Addr) : a.add 0 = a := by simp [Addr.add]
theorem add_add (a : Addr) (i j : Nat) : (a.add i).add j = a.add (i + j) := by
  unfold Addr.add
  by_cases hi : i = 0
  · simp [hi]
  · by_cases hj : j = 0
    · simp [hi, hj]
    · simp [hi, hj, Nat.add_assoc]
theorem rd_indexAddr {t e : TypeId} {sz : Nat} (ht : P.underlying t = some (.slice e)) (hs : szOf P e sz) {A : Option Addr} {n c : Nat} {kd : IntKind} {i : Int} (hA : 0 < n → A = some (ad A)) (h0 : 0 ≤ i) (h1 : i < n) :
    Rd P S (sIndexAddr t (.slice A n c) (.int kd i)) k = k (.pointer (some ((ad A).add (i.toNat * sz)))) := rd_eq fun w _ => by
  rw [hA (by omega)]
  simp [sIndexAddr, Instr.indexAt, asIntOf, run_underlying ht, run_size hs, h0, h1, ad]
theorem rd_indexArr {t e : TypeId} {m sz : Nat} (ht : P.underlying t = some (.array m e)) (hs : szOf P e sz) {a : Addr} {kd : IntKind} {i : Int} (h0 : 0 ≤ i) (h1 : i < m) :
    Rd P S (sIndexAddr t (.pointer (some a)) (.int kd i)) k = k (.pointer (some (a.add (i.toNat * sz)))) := rd_eq fun w _ => by
  simp [sIndexAddr, Instr.indexAt, asIntOf, run_underlying ht, run_size hs, h0, h1, Instr.sureAddr]
theorem rd_fieldAddr {t : TypeId} {i off : Nat} (hf : fld P t i off) {a : Addr} : Rd P S (sFieldAddr t (.pointer (some a)) i) k = k (.pointer (some (a.add off))) := rd_eq fun w _ => by
  obtain ⟨fs, f, n, ht, hf, ho, hs, hn⟩ := hf
  simp [sFieldAddr, Instr.fieldAt, run_underlying ht, hf, Instr.sureAddr, fieldPlace, run_size hs, hn, ho]

/-! ### Reading memory -/
theorem run_isAgg_one {t : TypeId} (h : one P t) (w : World) : (isAgg t).run P w = .ok false w := by
  obtain ⟨d, hd, hm⟩ := h
  simp only [isAgg, Sem.run_bind, run_underlying hd, Result.andThen]
  cases d <;> first | rfl | exact hm.elim
theorem run_isAgg_agg {t : TypeId} (h : agg P t) (w : World) : (isAgg t).run P w = .ok true w := by
  obtain ⟨d, hd, hm⟩ := h
  simp only [isAgg, Sem.run_bind, run_underlying hd, Result.andThen]
  cases d <;> first | rfl | exact hm.elim
theorem run_load {a : Addr} {v : Value} {w : World} (h : w.cell? a = some v) : (load a).run P w = .ok v w := by simp [load, Sem.run, h]
theorem rd_load1 {t : TypeId} (ht : one P t) {a : Addr} {v : Value} (h : ∀ w, S.S w → w.cell? a = some v) : Rd P S (sLoad t (.pointer (some a))) k = k v := rd_eq fun w hw => by
  simp only [sLoad, Instr.loadAt, loadVar, Instr.sureAddr, Sem.run_bind, Sem.run_pure, Result.andThen, run_isAgg_one ht]
  simp [h w hw]
theorem run_loadCellsFrom {a : Addr} {w : World} : ∀ (cs : List Value) (i : Nat) (acc : Array Value), (∀ j (h : j < cs.length), w.cell? (a.add (i + j)) = some cs[j]) → (loadCellsFrom a i cs.length acc).run P w = .ok (acc ++ cs.toArray) w := by
  intro cs
  induction cs with
  | nil => intro i acc _; simp [loadCellsFrom]
  | cons c cs ih =>
    intro i acc h
    have h0 := h 0 (by simp)
    have := ih (i + 1) (acc.push c) fun j hj => by
      have := h (j + 1) (by simpa using hj)
      rw [show i + 1 + j = i + (j + 1) from by omega]
      simpa using this
    simp only [List.length_cons, loadCellsFrom, Sem.run_bind]
    rw [run_load (by simpa using h0)]
    simp only [Result.andThen]
    rw [this]
    simp
theorem rd_loadAgg {t : TypeId} {n : Nat} (ht : agg P t) (hs : szOf P t n) {a : Addr} {cs : List Value} (hn : cs.length = n) (h : ∀ w, S.S w → ∀ j (h : j < cs.length), w.cell? (a.add j) = some cs[j]) :
    Rd P S (sLoad t (.pointer (some a))) k = k (.agg cs.toArray) := rd_eq fun w hw => by
  have := run_loadCellsFrom (P := P) cs 0 #[] (fun j hj => by simpa using h w hw j hj)
  rw [hn] at this
  simp [sLoad, Instr.loadAt, loadVar, run_isAgg_agg ht, run_size hs, Instr.sureAddr, loadCells, this]
theorem sLoadVar_eq {t : TypeId} {a : Addr} (w : World) : (sLoadVar t (.pointer (some a))).run P w = (sLoad t (.pointer (some a))).run P w := by
  simp [sLoadVar, sLoad, Instr.loadAt, Instr.sureAddr, asAddr]
theorem rd_loadVar {t : TypeId} {a : Addr} : Rd P S (sLoadVar t (.pointer (some a))) k = Rd P S (sLoad t (.pointer (some a))) k := by
  simp only [Rd, sLoadVar_eq]

end

/-! ### Worlds that have grown -/
abbrev Gr (w w' : World) : Prop := w.grownBy w' none
theorem Gr.refl (w : World) : Gr w w := ⟨rfl, rfl, rfl, Nat.le_refl _, fun _ _ _ => rfl⟩
theorem gr_trans {a b c : World} (h : Gr a b) (g : Gr b c) : Gr a c :=
  ⟨g.os.trans h.os, g.tape.trans h.tape, g.output.trans h.output, Nat.le_trans h.size g.size, fun k hk hn => (g.block k (Nat.lt_of_lt_of_le hk h.size) (by simp)).trans (h.block k hk (by simp))⟩
theorem gr_mod {a b c : World} {r : Option Nat} (h : Gr a b) (g : b.grownBy c r) (hr : ∀ q, r = some q → a.heap.size ≤ q) : Gr a c :=
  ⟨g.os.trans h.os, g.tape.trans h.tape, g.output.trans h.output, Nat.le_trans h.size g.size, fun k hk hn => (g.block k (Nat.lt_of_lt_of_le hk h.size) (fun e => by
    have := hr k e.symm
    omega)).trans (h.block k hk (by simp))⟩
theorem gr_any {a b : World} (h : Gr a b) (r : Option Nat) : a.grownBy b r := ⟨h.os, h.tape, h.output, h.size, fun k hk _ => h.block k hk (by simp)⟩
theorem gr_drew (w : World) : Gr w w.drew := ⟨rfl, rfl, rfl, Nat.le_refl _, fun _ _ _ => rfl⟩
theorem gr_alloc (w : World) (o : Obj) : Gr w (w.alloc o) := World.grownBy_alloc w o none
theorem Gr.cell {w w' : World} (h : Gr w w') {a : Addr} {v : Value} (hc : w.cell? a = some v) : w'.cell? a = some v := World.grownBy.cell h hc (by simp)
theorem grownBy_trans {a b c : World} {r : Option Nat} (h : a.grownBy b r) (g : b.grownBy c r) : a.grownBy c r :=
  ⟨g.os.trans h.os, g.tape.trans h.tape, g.output.trans h.output, Nat.le_trans h.size g.size, fun k hk hn => (g.block k (Nat.lt_of_lt_of_le hk h.size) hn).trans (h.block k hk hn)⟩

/-! ### A block of the call's own -/
def Box (w : World) (b : Nat) (cs : List Value) (t : TypeId) : Prop := w.heap[b]? = some (.cells cs.toArray t (0, 0))
theorem Box.lt {w : World} {b : Nat} {cs : List Value} {t : TypeId} (h : Box w b cs t) : b < w.heap.size := (Array.getElem?_eq_some_iff.1 h).1
theorem Box.kept {w w' : World} {b : Nat} {cs : List Value} {t : TypeId} {r : Option Nat} (h : Box w b cs t) (g : w.grownBy w' r) (hr : r ≠ some b) : Box w' b cs t := by
  unfold Box
  rw [g.block b h.lt (fun e => hr e.symm)]
  exact h
theorem Box.gr {w w' : World} {b : Nat} {cs : List Value} {t : TypeId} (h : Box w b cs t) (g : Gr w w') : Box w' b cs t := h.kept g (by simp)
theorem Box.cell {w : World} {b : Nat} {cs : List Value} {t : TypeId} (h : Box w b cs t) (j : Nat) : w.cell? ⟨b, j, none⟩ = cs[j]? := by
  simp only [World.cell?]
  rw [show w.heap[b]? = _ from h]
  simp
theorem Box.frozen {w : World} {b : Nat} {cs : List Value} {t : TypeId} (h : Box w b cs t) (j : Nat) : w.frozen? ⟨b, j, none⟩ = false := by
  simp only [World.frozen?]
  rw [show w.heap[b]? = _ from h]
  simp

section
variable {P : Program} {k : Value → World → Prop} {w : World}
theorem do_box {t : TypeId} {v : Value} (h : ∀ b w', Gr w w' → w.heap.size ≤ b → Box w' b v.cells.toList t → k (.pointer (some ⟨b, 0, none⟩)) w') : Do P (sBox t v) k w := by
  have e : (sBox t v).run P w = .ok (.value (.pointer (some ⟨w.heap.size, 0, none⟩))) (w.alloc (.cells v.cells t)) := by
    rfl
  rw [do_value e]
  exact h _ _ (gr_alloc w _) (Nat.le_refl _) (heap_alloc_new w _)
theorem do_alloc {t : TypeId} {i : TypeInfo} {z : Value} (hi : P.info? t = some i) (hz : i.zero = some z) (h : ∀ b w', Gr w w' → w.heap.size ≤ b → Box w' b z.cells.toList t → k (.pointer (some ⟨b, 0, none⟩)) w') : Do P (sAlloc t) k w := by
  have e : (sAlloc t).run P w = .ok (.value (.pointer (some ⟨w.heap.size, 0, none⟩))) (w.alloc (.cells z.cells t)) := by
    have e0 : (zeroValue t).run P w = .ok z w := by simp [zeroValue, run_info hi, hz]
    simp only [sAlloc, Instr.alloc, Sem.run_bind, e0, Result.andThen]
    rfl
  rw [do_value e]
  exact h _ _ (gr_alloc w _) (Nat.le_refl _) (heap_alloc_new w _)

theorem run_storeCells {b : Nat} {t : TypeId} : ∀ (vs : List Value) (i off : Nat) (cs : List Value) (w : World), Box w b cs t → off + i + vs.length ≤ cs.length → (∀ v ∈ vs, v.oneCell' = true) →
    ∃ w', (storeCells (⟨b, off, none⟩ : Addr) vs i).run P w = .ok () w' ∧ w.grownBy w' (some b) ∧ Box w' b (cs.take (off + i) ++ vs ++ cs.drop (off + i + vs.length)) t ∧ w'.heap.size = w.heap.size := by
  intro vs
  induction vs with
  | nil =>
    intro i off cs w hb _ _
    refine ⟨w, by simp [storeCells], gr_any (Gr.refl w) _, ?_, rfl⟩
    simpa using hb
  | cons v vs ih =>
    intro i off cs w hb hl h1
    have hlt : off + i < cs.length := by simp at hl; omega
    have hc : w.cell? ⟨b, off + i, none⟩ = some cs[off + i] := by rw [hb.cell]; simp [hlt]
    have hf := hb.frozen (off + i)
    have hb' : Box (w.setCell ⟨b, off + i, none⟩ v) b (cs.set (off + i) v) t := by
      have hlt' := hb.lt
      unfold Box at hb ⊢
      simp only [World.setCell, Array.getElem?_modify, if_true]
      rw [hb]
      simp
    have hg : w.grownBy (w.setCell ⟨b, off + i, none⟩ v) (some b) := ⟨rfl, rfl, rfl, by simp [World.setCell], fun k hk hn => by
      simp only [World.setCell, Array.getElem?_modify]
      rw [if_neg (by intro e; exact hn (by simp [e]))]⟩
    obtain ⟨w', hr, hg', hb'', hsz⟩ := ih (i + 1) off (cs.set (off + i) v) _ hb' (by simp at hl ⊢; omega) (fun u hu => h1 u (List.mem_cons_of_mem _ hu))
    refine ⟨w', ?_, grownBy_trans hg hg', ?_, by rw [hsz]; simp [World.setCell]⟩
    · have hv := h1 v (List.mem_cons_self ..)
      have hst : (store (⟨b, off + i, none⟩ : Addr) v).run P w = .ok () (w.setCell ⟨b, off + i, none⟩ v) := by
        unfold store
        cases v <;> first | (simp [Value.oneCell'] at hv; done) | simp [Sem.run, hc, hf]
      simp only [storeCells, Sem.run_bind, add_plain]
      rw [hst]
      exact hr
    · have e : cs.take (off + i) ++ v :: vs ++ cs.drop (off + i + (v :: vs).length) = (cs.set (off + i) v).take (off + (i + 1)) ++ vs ++ (cs.set (off + i) v).drop (off + (i + 1) + vs.length) := by
        rw [show off + (i + 1) = off + i + 1 from by omega, List.take_succ_eq_append_getElem (by simpa using hlt), List.drop_set_of_lt (by omega), List.take_set_of_le (Nat.le_refl _)]
        simp only [List.getElem_set_self, List.length_cons, List.append_assoc, List.cons_append, List.nil_append]
        rw [show off + i + 1 + vs.length = off + i + (vs.length + 1) from by omega]
      rw [e]
      exact hb''
/-- A store into a block of the call's own. -/
theorem do_store {t e : TypeId} {v : Value} {b off n : Nat} {cs : List Value} (hs : szOf P t n) (hv : v.cells.size = n) (h1 : ∀ u ∈ v.cells.toList, u.oneCell' = true) (hb : Box w b cs e) (hl : off + n ≤ cs.length)
    (h : ∀ w', w.grownBy w' (some b) → w'.heap.size = w.heap.size → Box w' b (cs.take off ++ v.cells.toList ++ cs.drop (off + n)) e → k undef w') : Do P (sStore t (.pointer (some ⟨b, off, none⟩)) v) k w := by
  obtain ⟨w', hr, hg, hb', hsz⟩ := run_storeCells (P := P) v.cells.toList 0 off cs w hb (by simp [hv]; omega) h1
  have e' : (sStore t (.pointer (some ⟨b, off, none⟩)) v).run P w = .ok .skip w' := by
    simp only [sStore, Instr.storeAt, Instr.sureAddr, storeVar, Sem.run_bind, Sem.run_pure, Result.andThen, run_size hs]
    rw [if_neg (by simp [hv])]
    simp only [hr]
  rw [do_skip e']
  have hvl : v.cells.toList.length = n := by simp [hv]
  simp only [Nat.add_zero, hvl] at hb'
  exact h w' hg hsz hb'
end
end Go.Sh
