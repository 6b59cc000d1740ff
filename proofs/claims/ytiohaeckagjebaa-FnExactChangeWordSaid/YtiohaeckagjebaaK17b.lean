/- Texts of this repository put together: ShT, Ba. -/
import Derived.Test.YtiohaeckagjebaaK17a
import Derived.Test.YtiohaeckagjebaaProg

/- Small laws for each type of the translation, printed by shtypes.py of this repository. -/
set_option linter.unusedVariables false
set_option maxRecDepth 100000
namespace Go.Proofs.Ytiohaeckagjebaa
open Go Go.Sh
section
variable {S : WS} {k : Value → Prop}
theorem sz1 : szOf Try.prog 1 1 := szOf_of (by kernel_rfl)
theorem one1 : one Try.prog 1 := one_of (by kernel_rfl)
theorem ld1 {w : World} {a : Addr} {v : Value} (h : w.cell? a = some v) : Rd Try.prog (WS.at w) (sLoad 1 (.pointer (some a))) k = k v := rd_load1 one1 (fun _ hw => by rw [hw]; exact h)
theorem ldS1 {a : Addr} {v : Value} (h : ∀ w, S.S w → w.cell? a = some v) : Rd Try.prog S (sLoad 1 (.pointer (some a))) k = k v := rd_load1 one1 h
theorem ldB1 {w : World} {b off e : Nat} {cs : List Value} {v : Value} (hb : Box w b cs e) (h : cs[off]? = some v) : Rd Try.prog (WS.at w) (sLoad 1 (.pointer (some ⟨b, off, none⟩))) k = k v := ld1 ((hb.cell off).trans h)
theorem sz2 : szOf Try.prog 2 1 := szOf_of (by kernel_rfl)
theorem one2 : one Try.prog 2 := one_of (by kernel_rfl)
theorem ld2 {w : World} {a : Addr} {v : Value} (h : w.cell? a = some v) : Rd Try.prog (WS.at w) (sLoad 2 (.pointer (some a))) k = k v := rd_load1 one2 (fun _ hw => by rw [hw]; exact h)
theorem ldS2 {a : Addr} {v : Value} (h : ∀ w, S.S w → w.cell? a = some v) : Rd Try.prog S (sLoad 2 (.pointer (some a))) k = k v := rd_load1 one2 h
theorem ldB2 {w : World} {b off e : Nat} {cs : List Value} {v : Value} (hb : Box w b cs e) (h : cs[off]? = some v) : Rd Try.prog (WS.at w) (sLoad 2 (.pointer (some ⟨b, off, none⟩))) k = k v := ld2 ((hb.cell off).trans h)
theorem sz3 : szOf Try.prog 3 1 := szOf_of (by kernel_rfl)
theorem one3 : one Try.prog 3 := one_of (by kernel_rfl)
theorem ld3 {w : World} {a : Addr} {v : Value} (h : w.cell? a = some v) : Rd Try.prog (WS.at w) (sLoad 3 (.pointer (some a))) k = k v := rd_load1 one3 (fun _ hw => by rw [hw]; exact h)
theorem ldS3 {a : Addr} {v : Value} (h : ∀ w, S.S w → w.cell? a = some v) : Rd Try.prog S (sLoad 3 (.pointer (some a))) k = k v := rd_load1 one3 h
theorem ldB3 {w : World} {b off e : Nat} {cs : List Value} {v : Value} (hb : Box w b cs e) (h : cs[off]? = some v) : Rd Try.prog (WS.at w) (sLoad 3 (.pointer (some ⟨b, off, none⟩))) k = k v := ld3 ((hb.cell off).trans h)
theorem sz4 : szOf Try.prog 4 1 := szOf_of (by kernel_rfl)
theorem one4 : one Try.prog 4 := one_of (by kernel_rfl)
theorem ld4 {w : World} {a : Addr} {v : Value} (h : w.cell? a = some v) : Rd Try.prog (WS.at w) (sLoad 4 (.pointer (some a))) k = k v := rd_load1 one4 (fun _ hw => by rw [hw]; exact h)
theorem ldS4 {a : Addr} {v : Value} (h : ∀ w, S.S w → w.cell? a = some v) : Rd Try.prog S (sLoad 4 (.pointer (some a))) k = k v := rd_load1 one4 h
theorem ldB4 {w : World} {b off e : Nat} {cs : List Value} {v : Value} (hb : Box w b cs e) (h : cs[off]? = some v) : Rd Try.prog (WS.at w) (sLoad 4 (.pointer (some ⟨b, off, none⟩))) k = k v := ld4 ((hb.cell off).trans h)
theorem sz5 : szOf Try.prog 5 1 := szOf_of (by kernel_rfl)
theorem one5 : one Try.prog 5 := one_of (by kernel_rfl)
theorem ld5 {w : World} {a : Addr} {v : Value} (h : w.cell? a = some v) : Rd Try.prog (WS.at w) (sLoad 5 (.pointer (some a))) k = k v := rd_load1 one5 (fun _ hw => by rw [hw]; exact h)
theorem ldS5 {a : Addr} {v : Value} (h : ∀ w, S.S w → w.cell? a = some v) : Rd Try.prog S (sLoad 5 (.pointer (some a))) k = k v := rd_load1 one5 h
theorem ldB5 {w : World} {b off e : Nat} {cs : List Value} {v : Value} (hb : Box w b cs e) (h : cs[off]? = some v) : Rd Try.prog (WS.at w) (sLoad 5 (.pointer (some ⟨b, off, none⟩))) k = k v := ld5 ((hb.cell off).trans h)
theorem sz6 : szOf Try.prog 6 1 := szOf_of (by kernel_rfl)
theorem one6 : one Try.prog 6 := one_of (by kernel_rfl)
theorem ld6 {w : World} {a : Addr} {v : Value} (h : w.cell? a = some v) : Rd Try.prog (WS.at w) (sLoad 6 (.pointer (some a))) k = k v := rd_load1 one6 (fun _ hw => by rw [hw]; exact h)
theorem ldS6 {a : Addr} {v : Value} (h : ∀ w, S.S w → w.cell? a = some v) : Rd Try.prog S (sLoad 6 (.pointer (some a))) k = k v := rd_load1 one6 h
theorem ldB6 {w : World} {b off e : Nat} {cs : List Value} {v : Value} (hb : Box w b cs e) (h : cs[off]? = some v) : Rd Try.prog (WS.at w) (sLoad 6 (.pointer (some ⟨b, off, none⟩))) k = k v := ld6 ((hb.cell off).trans h)
theorem sz7 : szOf Try.prog 7 4 := szOf_of (by kernel_rfl)
theorem agg7 : agg Try.prog 7 := agg_of (by kernel_rfl)
@[go_sem] theorem fa8_0 {a : Addr} : Rd Try.prog S (sFieldAddr 8 (.pointer (some a)) 0) k = k (.pointer (some (a.add 0))) := rd_fieldAddr (fld_of (by kernel_rfl))
@[go_sem] theorem fa8_1 {a : Addr} : Rd Try.prog S (sFieldAddr 8 (.pointer (some a)) 1) k = k (.pointer (some (a.add 1))) := rd_fieldAddr (fld_of (by kernel_rfl))
@[go_sem] theorem fa8_2 {a : Addr} : Rd Try.prog S (sFieldAddr 8 (.pointer (some a)) 2) k = k (.pointer (some (a.add 2))) := rd_fieldAddr (fld_of (by kernel_rfl))
@[go_sem] theorem fa8_3 {a : Addr} : Rd Try.prog S (sFieldAddr 8 (.pointer (some a)) 3) k = k (.pointer (some (a.add 3))) := rd_fieldAddr (fld_of (by kernel_rfl))
theorem sz8 : szOf Try.prog 8 4 := szOf_of (by kernel_rfl)
theorem agg8 : agg Try.prog 8 := agg_of (by kernel_rfl)
theorem sz9 : szOf Try.prog 9 1 := szOf_of (by kernel_rfl)
theorem one9 : one Try.prog 9 := one_of (by kernel_rfl)
theorem ld9 {w : World} {a : Addr} {v : Value} (h : w.cell? a = some v) : Rd Try.prog (WS.at w) (sLoad 9 (.pointer (some a))) k = k v := rd_load1 one9 (fun _ hw => by rw [hw]; exact h)
theorem ldS9 {a : Addr} {v : Value} (h : ∀ w, S.S w → w.cell? a = some v) : Rd Try.prog S (sLoad 9 (.pointer (some a))) k = k v := rd_load1 one9 h
theorem ldB9 {w : World} {b off e : Nat} {cs : List Value} {v : Value} (hb : Box w b cs e) (h : cs[off]? = some v) : Rd Try.prog (WS.at w) (sLoad 9 (.pointer (some ⟨b, off, none⟩))) k = k v := ld9 ((hb.cell off).trans h)
theorem sz10 : szOf Try.prog 10 1 := szOf_of (by kernel_rfl)
theorem one10 : one Try.prog 10 := one_of (by kernel_rfl)
theorem ld10 {w : World} {a : Addr} {v : Value} (h : w.cell? a = some v) : Rd Try.prog (WS.at w) (sLoad 10 (.pointer (some a))) k = k v := rd_load1 one10 (fun _ hw => by rw [hw]; exact h)
theorem ldS10 {a : Addr} {v : Value} (h : ∀ w, S.S w → w.cell? a = some v) : Rd Try.prog S (sLoad 10 (.pointer (some a))) k = k v := rd_load1 one10 h
theorem ldB10 {w : World} {b off e : Nat} {cs : List Value} {v : Value} (hb : Box w b cs e) (h : cs[off]? = some v) : Rd Try.prog (WS.at w) (sLoad 10 (.pointer (some ⟨b, off, none⟩))) k = k v := ld10 ((hb.cell off).trans h)
theorem sz11 : szOf Try.prog 11 1 := szOf_of (by kernel_rfl)
theorem one11 : one Try.prog 11 := one_of (by kernel_rfl)
theorem ld11 {w : World} {a : Addr} {v : Value} (h : w.cell? a = some v) : Rd Try.prog (WS.at w) (sLoad 11 (.pointer (some a))) k = k v := rd_load1 one11 (fun _ hw => by rw [hw]; exact h)
theorem ldS11 {a : Addr} {v : Value} (h : ∀ w, S.S w → w.cell? a = some v) : Rd Try.prog S (sLoad 11 (.pointer (some a))) k = k v := rd_load1 one11 h
theorem ldB11 {w : World} {b off e : Nat} {cs : List Value} {v : Value} (hb : Box w b cs e) (h : cs[off]? = some v) : Rd Try.prog (WS.at w) (sLoad 11 (.pointer (some ⟨b, off, none⟩))) k = k v := ld11 ((hb.cell off).trans h)
theorem sz12 : szOf Try.prog 12 1 := szOf_of (by kernel_rfl)
theorem one12 : one Try.prog 12 := one_of (by kernel_rfl)
theorem ld12 {w : World} {a : Addr} {v : Value} (h : w.cell? a = some v) : Rd Try.prog (WS.at w) (sLoad 12 (.pointer (some a))) k = k v := rd_load1 one12 (fun _ hw => by rw [hw]; exact h)
theorem ldS12 {a : Addr} {v : Value} (h : ∀ w, S.S w → w.cell? a = some v) : Rd Try.prog S (sLoad 12 (.pointer (some a))) k = k v := rd_load1 one12 h
theorem ldB12 {w : World} {b off e : Nat} {cs : List Value} {v : Value} (hb : Box w b cs e) (h : cs[off]? = some v) : Rd Try.prog (WS.at w) (sLoad 12 (.pointer (some ⟨b, off, none⟩))) k = k v := ld12 ((hb.cell off).trans h)
theorem sz13 : szOf Try.prog 13 2 := szOf_of (by kernel_rfl)
theorem agg13 : agg Try.prog 13 := agg_of (by kernel_rfl)
@[go_sem] theorem fa14_0 {a : Addr} : Rd Try.prog S (sFieldAddr 14 (.pointer (some a)) 0) k = k (.pointer (some (a.add 0))) := rd_fieldAddr (fld_of (by kernel_rfl))
@[go_sem] theorem fa14_1 {a : Addr} : Rd Try.prog S (sFieldAddr 14 (.pointer (some a)) 1) k = k (.pointer (some (a.add 1))) := rd_fieldAddr (fld_of (by kernel_rfl))
theorem sz14 : szOf Try.prog 14 2 := szOf_of (by kernel_rfl)
theorem agg14 : agg Try.prog 14 := agg_of (by kernel_rfl)
theorem sz15 : szOf Try.prog 15 1 := szOf_of (by kernel_rfl)
theorem one15 : one Try.prog 15 := one_of (by kernel_rfl)
theorem ld15 {w : World} {a : Addr} {v : Value} (h : w.cell? a = some v) : Rd Try.prog (WS.at w) (sLoad 15 (.pointer (some a))) k = k v := rd_load1 one15 (fun _ hw => by rw [hw]; exact h)
theorem ldS15 {a : Addr} {v : Value} (h : ∀ w, S.S w → w.cell? a = some v) : Rd Try.prog S (sLoad 15 (.pointer (some a))) k = k v := rd_load1 one15 h
theorem ldB15 {w : World} {b off e : Nat} {cs : List Value} {v : Value} (hb : Box w b cs e) (h : cs[off]? = some v) : Rd Try.prog (WS.at w) (sLoad 15 (.pointer (some ⟨b, off, none⟩))) k = k v := ld15 ((hb.cell off).trans h)
theorem sz16 : szOf Try.prog 16 1 := szOf_of (by kernel_rfl)
theorem one16 : one Try.prog 16 := one_of (by kernel_rfl)
theorem ld16 {w : World} {a : Addr} {v : Value} (h : w.cell? a = some v) : Rd Try.prog (WS.at w) (sLoad 16 (.pointer (some a))) k = k v := rd_load1 one16 (fun _ hw => by rw [hw]; exact h)
theorem ldS16 {a : Addr} {v : Value} (h : ∀ w, S.S w → w.cell? a = some v) : Rd Try.prog S (sLoad 16 (.pointer (some a))) k = k v := rd_load1 one16 h
theorem ldB16 {w : World} {b off e : Nat} {cs : List Value} {v : Value} (hb : Box w b cs e) (h : cs[off]? = some v) : Rd Try.prog (WS.at w) (sLoad 16 (.pointer (some ⟨b, off, none⟩))) k = k v := ld16 ((hb.cell off).trans h)
theorem sz17 : szOf Try.prog 17 1 := szOf_of (by kernel_rfl)
theorem one17 : one Try.prog 17 := one_of (by kernel_rfl)
theorem ld17 {w : World} {a : Addr} {v : Value} (h : w.cell? a = some v) : Rd Try.prog (WS.at w) (sLoad 17 (.pointer (some a))) k = k v := rd_load1 one17 (fun _ hw => by rw [hw]; exact h)
theorem ldS17 {a : Addr} {v : Value} (h : ∀ w, S.S w → w.cell? a = some v) : Rd Try.prog S (sLoad 17 (.pointer (some a))) k = k v := rd_load1 one17 h
theorem ldB17 {w : World} {b off e : Nat} {cs : List Value} {v : Value} (hb : Box w b cs e) (h : cs[off]? = some v) : Rd Try.prog (WS.at w) (sLoad 17 (.pointer (some ⟨b, off, none⟩))) k = k v := ld17 ((hb.cell off).trans h)
theorem sz18 : szOf Try.prog 18 1 := szOf_of (by kernel_rfl)
theorem agg18 : agg Try.prog 18 := agg_of (by kernel_rfl)
@[go_sem] theorem fa19_0 {a : Addr} : Rd Try.prog S (sFieldAddr 19 (.pointer (some a)) 0) k = k (.pointer (some (a.add 0))) := rd_fieldAddr (fld_of (by kernel_rfl))
theorem sz19 : szOf Try.prog 19 1 := szOf_of (by kernel_rfl)
theorem agg19 : agg Try.prog 19 := agg_of (by kernel_rfl)
theorem sz20 : szOf Try.prog 20 1 := szOf_of (by kernel_rfl)
theorem one20 : one Try.prog 20 := one_of (by kernel_rfl)
theorem ld20 {w : World} {a : Addr} {v : Value} (h : w.cell? a = some v) : Rd Try.prog (WS.at w) (sLoad 20 (.pointer (some a))) k = k v := rd_load1 one20 (fun _ hw => by rw [hw]; exact h)
theorem ldS20 {a : Addr} {v : Value} (h : ∀ w, S.S w → w.cell? a = some v) : Rd Try.prog S (sLoad 20 (.pointer (some a))) k = k v := rd_load1 one20 h
theorem ldB20 {w : World} {b off e : Nat} {cs : List Value} {v : Value} (hb : Box w b cs e) (h : cs[off]? = some v) : Rd Try.prog (WS.at w) (sLoad 20 (.pointer (some ⟨b, off, none⟩))) k = k v := ld20 ((hb.cell off).trans h)
theorem sz21 : szOf Try.prog 21 1 := szOf_of (by kernel_rfl)
theorem one21 : one Try.prog 21 := one_of (by kernel_rfl)
theorem ld21 {w : World} {a : Addr} {v : Value} (h : w.cell? a = some v) : Rd Try.prog (WS.at w) (sLoad 21 (.pointer (some a))) k = k v := rd_load1 one21 (fun _ hw => by rw [hw]; exact h)
theorem ldS21 {a : Addr} {v : Value} (h : ∀ w, S.S w → w.cell? a = some v) : Rd Try.prog S (sLoad 21 (.pointer (some a))) k = k v := rd_load1 one21 h
theorem ldB21 {w : World} {b off e : Nat} {cs : List Value} {v : Value} (hb : Box w b cs e) (h : cs[off]? = some v) : Rd Try.prog (WS.at w) (sLoad 21 (.pointer (some ⟨b, off, none⟩))) k = k v := ld21 ((hb.cell off).trans h)
theorem u22 : Try.prog.underlying 22 = some (.slice 3) := by kernel_rfl
@[go_sem] theorem len22 {cs : List Bool} {u : TypeId} {X : Option Addr} {n c : Nat} : Rd Try.prog S (sBuiltin .len #[22] u cs [.slice X n c]) k = k (.int .i64 n) := len_slice u22
theorem ix22 {X : Option Addr} {n c : Nat} {kd : IntKind} {i : Int} (hA : 0 < n → X = some (ad X)) (h0 : 0 ≤ i) (h1 : i < n) : Rd Try.prog S (sIndexAddr 22 (.slice X n c) (.int kd i)) k = k (.pointer (some ((ad X).add i.toNat))) := by rw [rd_indexAddr u22 sz3 hA h0 h1, Nat.mul_one]
theorem ixn22 {X : Option Addr} {n c : Nat} {kd : IntKind} {i : Nat} (hA : 0 < n → X = some (ad X)) (h1 : i < n) : Rd Try.prog S (sIndexAddr 22 (.slice X n c) (.int kd i)) k = k (.pointer (some ((ad X).add i))) := ix22 hA (Int.natCast_nonneg i) (Int.ofNat_lt.2 h1)
theorem ix22_0 {X : Option Addr} {n c : Nat} {kd : IntKind} (hA : 0 < n → X = some (ad X)) (h1 : 0 < n) : Rd Try.prog S (sIndexAddr 22 (.slice X n c) (.int kd 0)) k = k (.pointer (some ((ad X).add 0))) := ixn22 (i := 0) hA h1
theorem ix22_1 {X : Option Addr} {n c : Nat} {kd : IntKind} (hA : 0 < n → X = some (ad X)) (h1 : 1 < n) : Rd Try.prog S (sIndexAddr 22 (.slice X n c) (.int kd 1)) k = k (.pointer (some ((ad X).add 1))) := ixn22 (i := 1) hA h1
theorem ix22_2 {X : Option Addr} {n c : Nat} {kd : IntKind} (hA : 0 < n → X = some (ad X)) (h1 : 2 < n) : Rd Try.prog S (sIndexAddr 22 (.slice X n c) (.int kd 2)) k = k (.pointer (some ((ad X).add 2))) := ixn22 (i := 2) hA h1
theorem ix22_3 {X : Option Addr} {n c : Nat} {kd : IntKind} (hA : 0 < n → X = some (ad X)) (h1 : 3 < n) : Rd Try.prog S (sIndexAddr 22 (.slice X n c) (.int kd 3)) k = k (.pointer (some ((ad X).add 3))) := ixn22 (i := 3) hA h1
theorem ix22_4 {X : Option Addr} {n c : Nat} {kd : IntKind} (hA : 0 < n → X = some (ad X)) (h1 : 4 < n) : Rd Try.prog S (sIndexAddr 22 (.slice X n c) (.int kd 4)) k = k (.pointer (some ((ad X).add 4))) := ixn22 (i := 4) hA h1
theorem ix22_5 {X : Option Addr} {n c : Nat} {kd : IntKind} (hA : 0 < n → X = some (ad X)) (h1 : 5 < n) : Rd Try.prog S (sIndexAddr 22 (.slice X n c) (.int kd 5)) k = k (.pointer (some ((ad X).add 5))) := ixn22 (i := 5) hA h1
theorem inf3 : ∃ i, Try.prog.info? 3 = some i ∧ i.zero = some (.int .i64 0) ∧ i.size = 1 ∧ i.bytes = 8 := inf_of (by kernel_rfl)
theorem ap22 {w : World} {k : Value → World → Prop} {u : TypeId} {cs : List Bool} {B n c m d : Nat} {X Y : Option Addr} {cells news : List Value} (hO : Row w B 3 1 X n c cells) (hS : Src w Y news) (hl : news.length = m * 1) (h1 : ∀ v ∈ news, v.oneCell' = true) (hm : (n + m) * 8 ≤ 140737488355328) (hB : B ≤ w.heap.size) (h : ∀ X' c' w', Row w' B 3 1 X' (n + m) c' (cells ++ news) → w.grownBy w' (blk X) → k (.slice X' (n + m) c') w') : Do Try.prog (sBuiltin .append #[22, 22] u cs [.slice X n c, .slice Y m d]) k w := do_append_of u22 inf3 rfl (by decide) hO hS hl h1 hm (by omega) hB h
theorem mk22 {w : World} {k : Value → World → Prop} {kl kc : IntKind} {n : Nat} (hm : n * 8 ≤ 281474976710656) (h : ∀ b w', w.heap.size ≤ b → b < w'.heap.size → Gr w w' → (∀ B, B ≤ w.heap.size → Row w' B 3 1 (some ⟨b, 0, none⟩) n n (madeCells (Value.cells (.int .i64 0)) (n * 1)).toList) → k (.slice (some ⟨b, 0, none⟩) n n) w') : Do Try.prog (sMakeSlice 22 (.int kl n) (.int kc n)) k w := do_make_of u22 inf3 (by omega) (by omega) h
theorem bs22 {w : World} {k : Value → World → Prop} {n : Nat} {ps : List (Nat × Value)} (cells : List Value) (hn : n ≤ 65536) (hf : Instr.fill (fun j => some (j * 1, 1)) (madeCells (if n * 1 = 0 then #[] else Value.cells (.int .i64 0)) (n * 1)) ps = some cells.toArray) (hl : cells.length = n * 1) (h : ∀ b w', w.heap.size ≤ b → b < w'.heap.size → Gr w w' → Box w' b cells 3 → (∀ B, B ≤ w.heap.size → Row w' B 3 1 (some ⟨b, 0, none⟩) n n cells) → k (.slice (some ⟨b, 0, none⟩) n n) w') : Do Try.prog (sBuildSlice 22 n ps) k w := do_build_of u22 inf3 (by omega) (by omega) hf hl h
theorem sl22 {X : Option Addr} {n c : Nat} {kd kd' : IntKind} {l h : Int} (h0 : 0 ≤ l) (h1 : l ≤ h) (h2 : h ≤ c) : Rd Try.prog S (sSlice 22 (.slice X n c) (some (.int kd l)) (some (.int kd' h)) none) k = k (.slice (sub X l.toNat c 1) (h.toNat - l.toNat) (c - l.toNat)) := rd_slice_lh u22 sz3 h0 h1 h2
theorem slh22 {X : Option Addr} {n c : Nat} {kd' : IntKind} {h : Int} (h1 : 0 ≤ h) (h2 : h ≤ c) : Rd Try.prog S (sSlice 22 (.slice X n c) none (some (.int kd' h)) none) k = k (.slice (sub X 0 c 1) h.toNat c) := rd_slice_h u22 sz3 h1 h2
theorem sll22 {X : Option Addr} {n c : Nat} {kd : IntKind} {l : Int} (h0 : 0 ≤ l) (h1 : l ≤ n) : Rd Try.prog S (sSlice 22 (.slice X n c) (some (.int kd l)) none none) k = k (.slice (sub X l.toNat c 1) (n - l.toNat) (c - l.toNat)) := rd_slice_l u22 sz3 h0 h1
theorem sz22 : szOf Try.prog 22 1 := szOf_of (by kernel_rfl)
theorem one22 : one Try.prog 22 := one_of (by kernel_rfl)
theorem ld22 {w : World} {a : Addr} {v : Value} (h : w.cell? a = some v) : Rd Try.prog (WS.at w) (sLoad 22 (.pointer (some a))) k = k v := rd_load1 one22 (fun _ hw => by rw [hw]; exact h)
theorem ldS22 {a : Addr} {v : Value} (h : ∀ w, S.S w → w.cell? a = some v) : Rd Try.prog S (sLoad 22 (.pointer (some a))) k = k v := rd_load1 one22 h
theorem ldB22 {w : World} {b off e : Nat} {cs : List Value} {v : Value} (hb : Box w b cs e) (h : cs[off]? = some v) : Rd Try.prog (WS.at w) (sLoad 22 (.pointer (some ⟨b, off, none⟩))) k = k v := ld22 ((hb.cell off).trans h)
theorem sz24 : szOf Try.prog 24 1 := szOf_of (by kernel_rfl)
theorem one24 : one Try.prog 24 := one_of (by kernel_rfl)
theorem ld24 {w : World} {a : Addr} {v : Value} (h : w.cell? a = some v) : Rd Try.prog (WS.at w) (sLoad 24 (.pointer (some a))) k = k v := rd_load1 one24 (fun _ hw => by rw [hw]; exact h)
theorem ldS24 {a : Addr} {v : Value} (h : ∀ w, S.S w → w.cell? a = some v) : Rd Try.prog S (sLoad 24 (.pointer (some a))) k = k v := rd_load1 one24 h
theorem ldB24 {w : World} {b off e : Nat} {cs : List Value} {v : Value} (hb : Box w b cs e) (h : cs[off]? = some v) : Rd Try.prog (WS.at w) (sLoad 24 (.pointer (some ⟨b, off, none⟩))) k = k v := ld24 ((hb.cell off).trans h)
theorem sz25 : szOf Try.prog 25 1 := szOf_of (by kernel_rfl)
theorem one25 : one Try.prog 25 := one_of (by kernel_rfl)
theorem ld25 {w : World} {a : Addr} {v : Value} (h : w.cell? a = some v) : Rd Try.prog (WS.at w) (sLoad 25 (.pointer (some a))) k = k v := rd_load1 one25 (fun _ hw => by rw [hw]; exact h)
theorem ldS25 {a : Addr} {v : Value} (h : ∀ w, S.S w → w.cell? a = some v) : Rd Try.prog S (sLoad 25 (.pointer (some a))) k = k v := rd_load1 one25 h
theorem ldB25 {w : World} {b off e : Nat} {cs : List Value} {v : Value} (hb : Box w b cs e) (h : cs[off]? = some v) : Rd Try.prog (WS.at w) (sLoad 25 (.pointer (some ⟨b, off, none⟩))) k = k v := ld25 ((hb.cell off).trans h)
theorem sz26 : szOf Try.prog 26 1 := szOf_of (by kernel_rfl)
theorem one26 : one Try.prog 26 := one_of (by kernel_rfl)
theorem ld26 {w : World} {a : Addr} {v : Value} (h : w.cell? a = some v) : Rd Try.prog (WS.at w) (sLoad 26 (.pointer (some a))) k = k v := rd_load1 one26 (fun _ hw => by rw [hw]; exact h)
theorem ldS26 {a : Addr} {v : Value} (h : ∀ w, S.S w → w.cell? a = some v) : Rd Try.prog S (sLoad 26 (.pointer (some a))) k = k v := rd_load1 one26 h
theorem ldB26 {w : World} {b off e : Nat} {cs : List Value} {v : Value} (hb : Box w b cs e) (h : cs[off]? = some v) : Rd Try.prog (WS.at w) (sLoad 26 (.pointer (some ⟨b, off, none⟩))) k = k v := ld26 ((hb.cell off).trans h)
theorem sz27 : szOf Try.prog 27 1 := szOf_of (by kernel_rfl)
theorem one27 : one Try.prog 27 := one_of (by kernel_rfl)
theorem ld27 {w : World} {a : Addr} {v : Value} (h : w.cell? a = some v) : Rd Try.prog (WS.at w) (sLoad 27 (.pointer (some a))) k = k v := rd_load1 one27 (fun _ hw => by rw [hw]; exact h)
theorem ldS27 {a : Addr} {v : Value} (h : ∀ w, S.S w → w.cell? a = some v) : Rd Try.prog S (sLoad 27 (.pointer (some a))) k = k v := rd_load1 one27 h
theorem ldB27 {w : World} {b off e : Nat} {cs : List Value} {v : Value} (hb : Box w b cs e) (h : cs[off]? = some v) : Rd Try.prog (WS.at w) (sLoad 27 (.pointer (some ⟨b, off, none⟩))) k = k v := ld27 ((hb.cell off).trans h)
theorem sz28 : szOf Try.prog 28 1 := szOf_of (by kernel_rfl)
theorem one28 : one Try.prog 28 := one_of (by kernel_rfl)
theorem ld28 {w : World} {a : Addr} {v : Value} (h : w.cell? a = some v) : Rd Try.prog (WS.at w) (sLoad 28 (.pointer (some a))) k = k v := rd_load1 one28 (fun _ hw => by rw [hw]; exact h)
theorem ldS28 {a : Addr} {v : Value} (h : ∀ w, S.S w → w.cell? a = some v) : Rd Try.prog S (sLoad 28 (.pointer (some a))) k = k v := rd_load1 one28 h
theorem ldB28 {w : World} {b off e : Nat} {cs : List Value} {v : Value} (hb : Box w b cs e) (h : cs[off]? = some v) : Rd Try.prog (WS.at w) (sLoad 28 (.pointer (some ⟨b, off, none⟩))) k = k v := ld28 ((hb.cell off).trans h)
theorem sz148 : szOf Try.prog 148 2 := szOf_of (by kernel_rfl)
theorem u29 : Try.prog.underlying 29 = some (.slice 148) := by kernel_rfl
@[go_sem] theorem len29 {cs : List Bool} {u : TypeId} {X : Option Addr} {n c : Nat} : Rd Try.prog S (sBuiltin .len #[29] u cs [.slice X n c]) k = k (.int .i64 n) := len_slice u29
theorem ix29 {X : Option Addr} {n c : Nat} {kd : IntKind} {i : Int} (hA : 0 < n → X = some (ad X)) (h0 : 0 ≤ i) (h1 : i < n) : Rd Try.prog S (sIndexAddr 29 (.slice X n c) (.int kd i)) k = k (.pointer (some ((ad X).add (i.toNat * 2)))) := (rd_indexAddr u29 sz148 hA h0 h1)
theorem ixn29 {X : Option Addr} {n c : Nat} {kd : IntKind} {i : Nat} (hA : 0 < n → X = some (ad X)) (h1 : i < n) : Rd Try.prog S (sIndexAddr 29 (.slice X n c) (.int kd i)) k = k (.pointer (some ((ad X).add (i * 2)))) := ix29 hA (Int.natCast_nonneg i) (Int.ofNat_lt.2 h1)
theorem ix29_0 {X : Option Addr} {n c : Nat} {kd : IntKind} (hA : 0 < n → X = some (ad X)) (h1 : 0 < n) : Rd Try.prog S (sIndexAddr 29 (.slice X n c) (.int kd 0)) k = k (.pointer (some ((ad X).add 0))) := ixn29 (i := 0) hA h1
theorem ix29_1 {X : Option Addr} {n c : Nat} {kd : IntKind} (hA : 0 < n → X = some (ad X)) (h1 : 1 < n) : Rd Try.prog S (sIndexAddr 29 (.slice X n c) (.int kd 1)) k = k (.pointer (some ((ad X).add 2))) := ixn29 (i := 1) hA h1
theorem ix29_2 {X : Option Addr} {n c : Nat} {kd : IntKind} (hA : 0 < n → X = some (ad X)) (h1 : 2 < n) : Rd Try.prog S (sIndexAddr 29 (.slice X n c) (.int kd 2)) k = k (.pointer (some ((ad X).add 4))) := ixn29 (i := 2) hA h1
theorem ix29_3 {X : Option Addr} {n c : Nat} {kd : IntKind} (hA : 0 < n → X = some (ad X)) (h1 : 3 < n) : Rd Try.prog S (sIndexAddr 29 (.slice X n c) (.int kd 3)) k = k (.pointer (some ((ad X).add 6))) := ixn29 (i := 3) hA h1
theorem ix29_4 {X : Option Addr} {n c : Nat} {kd : IntKind} (hA : 0 < n → X = some (ad X)) (h1 : 4 < n) : Rd Try.prog S (sIndexAddr 29 (.slice X n c) (.int kd 4)) k = k (.pointer (some ((ad X).add 8))) := ixn29 (i := 4) hA h1
theorem ix29_5 {X : Option Addr} {n c : Nat} {kd : IntKind} (hA : 0 < n → X = some (ad X)) (h1 : 5 < n) : Rd Try.prog S (sIndexAddr 29 (.slice X n c) (.int kd 5)) k = k (.pointer (some ((ad X).add 10))) := ixn29 (i := 5) hA h1
theorem inf148 : ∃ i, Try.prog.info? 148 = some i ∧ i.zero = some (.agg #[.int .i64 0, .slice none 0 0]) ∧ i.size = 2 ∧ i.bytes = 32 := inf_of (by kernel_rfl)
theorem ap29 {w : World} {k : Value → World → Prop} {u : TypeId} {cs : List Bool} {B n c m d : Nat} {X Y : Option Addr} {cells news : List Value} (hO : Row w B 148 2 X n c cells) (hS : Src w Y news) (hl : news.length = m * 2) (h1 : ∀ v ∈ news, v.oneCell' = true) (hm : (n + m) * 32 ≤ 140737488355328) (hB : B ≤ w.heap.size) (h : ∀ X' c' w', Row w' B 148 2 X' (n + m) c' (cells ++ news) → w.grownBy w' (blk X) → k (.slice X' (n + m) c') w') : Do Try.prog (sBuiltin .append #[29, 29] u cs [.slice X n c, .slice Y m d]) k w := do_append_of u29 inf148 rfl (by decide) hO hS hl h1 hm (by omega) hB h
theorem mk29 {w : World} {k : Value → World → Prop} {kl kc : IntKind} {n : Nat} (hm : n * 32 ≤ 281474976710656) (h : ∀ b w', w.heap.size ≤ b → b < w'.heap.size → Gr w w' → (∀ B, B ≤ w.heap.size → Row w' B 148 2 (some ⟨b, 0, none⟩) n n (madeCells (Value.cells (.agg #[.int .i64 0, .slice none 0 0])) (n * 2)).toList) → k (.slice (some ⟨b, 0, none⟩) n n) w') : Do Try.prog (sMakeSlice 29 (.int kl n) (.int kc n)) k w := do_make_of u29 inf148 (by omega) (by omega) h
theorem bs29 {w : World} {k : Value → World → Prop} {n : Nat} {ps : List (Nat × Value)} (cells : List Value) (hn : n ≤ 65536) (hf : Instr.fill (fun j => some (j * 2, 2)) (madeCells (if n * 2 = 0 then #[] else Value.cells (.agg #[.int .i64 0, .slice none 0 0])) (n * 2)) ps = some cells.toArray) (hl : cells.length = n * 2) (h : ∀ b w', w.heap.size ≤ b → b < w'.heap.size → Gr w w' → Box w' b cells 148 → (∀ B, B ≤ w.heap.size → Row w' B 148 2 (some ⟨b, 0, none⟩) n n cells) → k (.slice (some ⟨b, 0, none⟩) n n) w') : Do Try.prog (sBuildSlice 29 n ps) k w := do_build_of u29 inf148 (by omega) (by omega) hf hl h
theorem sl29 {X : Option Addr} {n c : Nat} {kd kd' : IntKind} {l h : Int} (h0 : 0 ≤ l) (h1 : l ≤ h) (h2 : h ≤ c) : Rd Try.prog S (sSlice 29 (.slice X n c) (some (.int kd l)) (some (.int kd' h)) none) k = k (.slice (sub X l.toNat c 2) (h.toNat - l.toNat) (c - l.toNat)) := rd_slice_lh u29 sz148 h0 h1 h2
theorem slh29 {X : Option Addr} {n c : Nat} {kd' : IntKind} {h : Int} (h1 : 0 ≤ h) (h2 : h ≤ c) : Rd Try.prog S (sSlice 29 (.slice X n c) none (some (.int kd' h)) none) k = k (.slice (sub X 0 c 2) h.toNat c) := rd_slice_h u29 sz148 h1 h2
theorem sll29 {X : Option Addr} {n c : Nat} {kd : IntKind} {l : Int} (h0 : 0 ≤ l) (h1 : l ≤ n) : Rd Try.prog S (sSlice 29 (.slice X n c) (some (.int kd l)) none none) k = k (.slice (sub X l.toNat c 2) (n - l.toNat) (c - l.toNat)) := rd_slice_l u29 sz148 h0 h1
theorem sz29 : szOf Try.prog 29 1 := szOf_of (by kernel_rfl)
theorem one29 : one Try.prog 29 := one_of (by kernel_rfl)
theorem ld29 {w : World} {a : Addr} {v : Value} (h : w.cell? a = some v) : Rd Try.prog (WS.at w) (sLoad 29 (.pointer (some a))) k = k v := rd_load1 one29 (fun _ hw => by rw [hw]; exact h)
theorem ldS29 {a : Addr} {v : Value} (h : ∀ w, S.S w → w.cell? a = some v) : Rd Try.prog S (sLoad 29 (.pointer (some a))) k = k v := rd_load1 one29 h
theorem ldB29 {w : World} {b off e : Nat} {cs : List Value} {v : Value} (hb : Box w b cs e) (h : cs[off]? = some v) : Rd Try.prog (WS.at w) (sLoad 29 (.pointer (some ⟨b, off, none⟩))) k = k v := ld29 ((hb.cell off).trans h)
theorem sz30 : szOf Try.prog 30 3 := szOf_of (by kernel_rfl)
theorem agg30 : agg Try.prog 30 := agg_of (by kernel_rfl)
@[go_sem] theorem fa31_0 {a : Addr} : Rd Try.prog S (sFieldAddr 31 (.pointer (some a)) 0) k = k (.pointer (some (a.add 0))) := rd_fieldAddr (fld_of (by kernel_rfl))
@[go_sem] theorem fa31_1 {a : Addr} : Rd Try.prog S (sFieldAddr 31 (.pointer (some a)) 1) k = k (.pointer (some (a.add 1))) := rd_fieldAddr (fld_of (by kernel_rfl))
@[go_sem] theorem fa31_2 {a : Addr} : Rd Try.prog S (sFieldAddr 31 (.pointer (some a)) 2) k = k (.pointer (some (a.add 2))) := rd_fieldAddr (fld_of (by kernel_rfl))
theorem sz31 : szOf Try.prog 31 3 := szOf_of (by kernel_rfl)
theorem agg31 : agg Try.prog 31 := agg_of (by kernel_rfl)
theorem sz32 : szOf Try.prog 32 1 := szOf_of (by kernel_rfl)
theorem one32 : one Try.prog 32 := one_of (by kernel_rfl)
theorem ld32 {w : World} {a : Addr} {v : Value} (h : w.cell? a = some v) : Rd Try.prog (WS.at w) (sLoad 32 (.pointer (some a))) k = k v := rd_load1 one32 (fun _ hw => by rw [hw]; exact h)
theorem ldS32 {a : Addr} {v : Value} (h : ∀ w, S.S w → w.cell? a = some v) : Rd Try.prog S (sLoad 32 (.pointer (some a))) k = k v := rd_load1 one32 h
theorem ldB32 {w : World} {b off e : Nat} {cs : List Value} {v : Value} (hb : Box w b cs e) (h : cs[off]? = some v) : Rd Try.prog (WS.at w) (sLoad 32 (.pointer (some ⟨b, off, none⟩))) k = k v := ld32 ((hb.cell off).trans h)
theorem sz34 : szOf Try.prog 34 1 := szOf_of (by kernel_rfl)
theorem one34 : one Try.prog 34 := one_of (by kernel_rfl)
theorem ld34 {w : World} {a : Addr} {v : Value} (h : w.cell? a = some v) : Rd Try.prog (WS.at w) (sLoad 34 (.pointer (some a))) k = k v := rd_load1 one34 (fun _ hw => by rw [hw]; exact h)
theorem ldS34 {a : Addr} {v : Value} (h : ∀ w, S.S w → w.cell? a = some v) : Rd Try.prog S (sLoad 34 (.pointer (some a))) k = k v := rd_load1 one34 h
theorem ldB34 {w : World} {b off e : Nat} {cs : List Value} {v : Value} (hb : Box w b cs e) (h : cs[off]? = some v) : Rd Try.prog (WS.at w) (sLoad 34 (.pointer (some ⟨b, off, none⟩))) k = k v := ld34 ((hb.cell off).trans h)
theorem sz77 : szOf Try.prog 77 2 := szOf_of (by kernel_rfl)
theorem u35 : Try.prog.underlying 35 = some (.slice 77) := by kernel_rfl
@[go_sem] theorem len35 {cs : List Bool} {u : TypeId} {X : Option Addr} {n c : Nat} : Rd Try.prog S (sBuiltin .len #[35] u cs [.slice X n c]) k = k (.int .i64 n) := len_slice u35
theorem ix35 {X : Option Addr} {n c : Nat} {kd : IntKind} {i : Int} (hA : 0 < n → X = some (ad X)) (h0 : 0 ≤ i) (h1 : i < n) : Rd Try.prog S (sIndexAddr 35 (.slice X n c) (.int kd i)) k = k (.pointer (some ((ad X).add (i.toNat * 2)))) := (rd_indexAddr u35 sz77 hA h0 h1)
theorem ixn35 {X : Option Addr} {n c : Nat} {kd : IntKind} {i : Nat} (hA : 0 < n → X = some (ad X)) (h1 : i < n) : Rd Try.prog S (sIndexAddr 35 (.slice X n c) (.int kd i)) k = k (.pointer (some ((ad X).add (i * 2)))) := ix35 hA (Int.natCast_nonneg i) (Int.ofNat_lt.2 h1)
theorem ix35_0 {X : Option Addr} {n c : Nat} {kd : IntKind} (hA : 0 < n → X = some (ad X)) (h1 : 0 < n) : Rd Try.prog S (sIndexAddr 35 (.slice X n c) (.int kd 0)) k = k (.pointer (some ((ad X).add 0))) := ixn35 (i := 0) hA h1
theorem ix35_1 {X : Option Addr} {n c : Nat} {kd : IntKind} (hA : 0 < n → X = some (ad X)) (h1 : 1 < n) : Rd Try.prog S (sIndexAddr 35 (.slice X n c) (.int kd 1)) k = k (.pointer (some ((ad X).add 2))) := ixn35 (i := 1) hA h1
theorem ix35_2 {X : Option Addr} {n c : Nat} {kd : IntKind} (hA : 0 < n → X = some (ad X)) (h1 : 2 < n) : Rd Try.prog S (sIndexAddr 35 (.slice X n c) (.int kd 2)) k = k (.pointer (some ((ad X).add 4))) := ixn35 (i := 2) hA h1
theorem ix35_3 {X : Option Addr} {n c : Nat} {kd : IntKind} (hA : 0 < n → X = some (ad X)) (h1 : 3 < n) : Rd Try.prog S (sIndexAddr 35 (.slice X n c) (.int kd 3)) k = k (.pointer (some ((ad X).add 6))) := ixn35 (i := 3) hA h1
theorem ix35_4 {X : Option Addr} {n c : Nat} {kd : IntKind} (hA : 0 < n → X = some (ad X)) (h1 : 4 < n) : Rd Try.prog S (sIndexAddr 35 (.slice X n c) (.int kd 4)) k = k (.pointer (some ((ad X).add 8))) := ixn35 (i := 4) hA h1
theorem ix35_5 {X : Option Addr} {n c : Nat} {kd : IntKind} (hA : 0 < n → X = some (ad X)) (h1 : 5 < n) : Rd Try.prog S (sIndexAddr 35 (.slice X n c) (.int kd 5)) k = k (.pointer (some ((ad X).add 10))) := ixn35 (i := 5) hA h1
theorem inf77 : ∃ i, Try.prog.info? 77 = some i ∧ i.zero = some (.agg #[.int .i64 0, .slice none 0 0]) ∧ i.size = 2 ∧ i.bytes = 32 := inf_of (by kernel_rfl)
theorem ap35 {w : World} {k : Value → World → Prop} {u : TypeId} {cs : List Bool} {B n c m d : Nat} {X Y : Option Addr} {cells news : List Value} (hO : Row w B 77 2 X n c cells) (hS : Src w Y news) (hl : news.length = m * 2) (h1 : ∀ v ∈ news, v.oneCell' = true) (hm : (n + m) * 32 ≤ 140737488355328) (hB : B ≤ w.heap.size) (h : ∀ X' c' w', Row w' B 77 2 X' (n + m) c' (cells ++ news) → w.grownBy w' (blk X) → k (.slice X' (n + m) c') w') : Do Try.prog (sBuiltin .append #[35, 35] u cs [.slice X n c, .slice Y m d]) k w := do_append_of u35 inf77 rfl (by decide) hO hS hl h1 hm (by omega) hB h
theorem mk35 {w : World} {k : Value → World → Prop} {kl kc : IntKind} {n : Nat} (hm : n * 32 ≤ 281474976710656) (h : ∀ b w', w.heap.size ≤ b → b < w'.heap.size → Gr w w' → (∀ B, B ≤ w.heap.size → Row w' B 77 2 (some ⟨b, 0, none⟩) n n (madeCells (Value.cells (.agg #[.int .i64 0, .slice none 0 0])) (n * 2)).toList) → k (.slice (some ⟨b, 0, none⟩) n n) w') : Do Try.prog (sMakeSlice 35 (.int kl n) (.int kc n)) k w := do_make_of u35 inf77 (by omega) (by omega) h
theorem bs35 {w : World} {k : Value → World → Prop} {n : Nat} {ps : List (Nat × Value)} (cells : List Value) (hn : n ≤ 65536) (hf : Instr.fill (fun j => some (j * 2, 2)) (madeCells (if n * 2 = 0 then #[] else Value.cells (.agg #[.int .i64 0, .slice none 0 0])) (n * 2)) ps = some cells.toArray) (hl : cells.length = n * 2) (h : ∀ b w', w.heap.size ≤ b → b < w'.heap.size → Gr w w' → Box w' b cells 77 → (∀ B, B ≤ w.heap.size → Row w' B 77 2 (some ⟨b, 0, none⟩) n n cells) → k (.slice (some ⟨b, 0, none⟩) n n) w') : Do Try.prog (sBuildSlice 35 n ps) k w := do_build_of u35 inf77 (by omega) (by omega) hf hl h
theorem sl35 {X : Option Addr} {n c : Nat} {kd kd' : IntKind} {l h : Int} (h0 : 0 ≤ l) (h1 : l ≤ h) (h2 : h ≤ c) : Rd Try.prog S (sSlice 35 (.slice X n c) (some (.int kd l)) (some (.int kd' h)) none) k = k (.slice (sub X l.toNat c 2) (h.toNat - l.toNat) (c - l.toNat)) := rd_slice_lh u35 sz77 h0 h1 h2
theorem slh35 {X : Option Addr} {n c : Nat} {kd' : IntKind} {h : Int} (h1 : 0 ≤ h) (h2 : h ≤ c) : Rd Try.prog S (sSlice 35 (.slice X n c) none (some (.int kd' h)) none) k = k (.slice (sub X 0 c 2) h.toNat c) := rd_slice_h u35 sz77 h1 h2
theorem sll35 {X : Option Addr} {n c : Nat} {kd : IntKind} {l : Int} (h0 : 0 ≤ l) (h1 : l ≤ n) : Rd Try.prog S (sSlice 35 (.slice X n c) (some (.int kd l)) none none) k = k (.slice (sub X l.toNat c 2) (n - l.toNat) (c - l.toNat)) := rd_slice_l u35 sz77 h0 h1
theorem sz35 : szOf Try.prog 35 1 := szOf_of (by kernel_rfl)
theorem one35 : one Try.prog 35 := one_of (by kernel_rfl)
theorem ld35 {w : World} {a : Addr} {v : Value} (h : w.cell? a = some v) : Rd Try.prog (WS.at w) (sLoad 35 (.pointer (some a))) k = k v := rd_load1 one35 (fun _ hw => by rw [hw]; exact h)
theorem ldS35 {a : Addr} {v : Value} (h : ∀ w, S.S w → w.cell? a = some v) : Rd Try.prog S (sLoad 35 (.pointer (some a))) k = k v := rd_load1 one35 h
theorem ldB35 {w : World} {b off e : Nat} {cs : List Value} {v : Value} (hb : Box w b cs e) (h : cs[off]? = some v) : Rd Try.prog (WS.at w) (sLoad 35 (.pointer (some ⟨b, off, none⟩))) k = k v := ld35 ((hb.cell off).trans h)
theorem sz36 : szOf Try.prog 36 3 := szOf_of (by kernel_rfl)
theorem agg36 : agg Try.prog 36 := agg_of (by kernel_rfl)
@[go_sem] theorem fa37_0 {a : Addr} : Rd Try.prog S (sFieldAddr 37 (.pointer (some a)) 0) k = k (.pointer (some (a.add 0))) := rd_fieldAddr (fld_of (by kernel_rfl))
@[go_sem] theorem fa37_1 {a : Addr} : Rd Try.prog S (sFieldAddr 37 (.pointer (some a)) 1) k = k (.pointer (some (a.add 1))) := rd_fieldAddr (fld_of (by kernel_rfl))
@[go_sem] theorem fa37_2 {a : Addr} : Rd Try.prog S (sFieldAddr 37 (.pointer (some a)) 2) k = k (.pointer (some (a.add 2))) := rd_fieldAddr (fld_of (by kernel_rfl))
theorem sz37 : szOf Try.prog 37 3 := szOf_of (by kernel_rfl)
theorem agg37 : agg Try.prog 37 := agg_of (by kernel_rfl)
theorem sz38 : szOf Try.prog 38 1 := szOf_of (by kernel_rfl)
theorem one38 : one Try.prog 38 := one_of (by kernel_rfl)
theorem ld38 {w : World} {a : Addr} {v : Value} (h : w.cell? a = some v) : Rd Try.prog (WS.at w) (sLoad 38 (.pointer (some a))) k = k v := rd_load1 one38 (fun _ hw => by rw [hw]; exact h)
theorem ldS38 {a : Addr} {v : Value} (h : ∀ w, S.S w → w.cell? a = some v) : Rd Try.prog S (sLoad 38 (.pointer (some a))) k = k v := rd_load1 one38 h
theorem ldB38 {w : World} {b off e : Nat} {cs : List Value} {v : Value} (hb : Box w b cs e) (h : cs[off]? = some v) : Rd Try.prog (WS.at w) (sLoad 38 (.pointer (some ⟨b, off, none⟩))) k = k v := ld38 ((hb.cell off).trans h)
theorem sz39 : szOf Try.prog 39 1 := szOf_of (by kernel_rfl)
theorem one39 : one Try.prog 39 := one_of (by kernel_rfl)
theorem ld39 {w : World} {a : Addr} {v : Value} (h : w.cell? a = some v) : Rd Try.prog (WS.at w) (sLoad 39 (.pointer (some a))) k = k v := rd_load1 one39 (fun _ hw => by rw [hw]; exact h)
theorem ldS39 {a : Addr} {v : Value} (h : ∀ w, S.S w → w.cell? a = some v) : Rd Try.prog S (sLoad 39 (.pointer (some a))) k = k v := rd_load1 one39 h
theorem ldB39 {w : World} {b off e : Nat} {cs : List Value} {v : Value} (hb : Box w b cs e) (h : cs[off]? = some v) : Rd Try.prog (WS.at w) (sLoad 39 (.pointer (some ⟨b, off, none⟩))) k = k v := ld39 ((hb.cell off).trans h)
theorem sz40 : szOf Try.prog 40 1 := szOf_of (by kernel_rfl)
theorem one40 : one Try.prog 40 := one_of (by kernel_rfl)
theorem ld40 {w : World} {a : Addr} {v : Value} (h : w.cell? a = some v) : Rd Try.prog (WS.at w) (sLoad 40 (.pointer (some a))) k = k v := rd_load1 one40 (fun _ hw => by rw [hw]; exact h)
theorem ldS40 {a : Addr} {v : Value} (h : ∀ w, S.S w → w.cell? a = some v) : Rd Try.prog S (sLoad 40 (.pointer (some a))) k = k v := rd_load1 one40 h
theorem ldB40 {w : World} {b off e : Nat} {cs : List Value} {v : Value} (hb : Box w b cs e) (h : cs[off]? = some v) : Rd Try.prog (WS.at w) (sLoad 40 (.pointer (some ⟨b, off, none⟩))) k = k v := ld40 ((hb.cell off).trans h)
theorem sz42 : szOf Try.prog 42 1 := szOf_of (by kernel_rfl)
theorem one42 : one Try.prog 42 := one_of (by kernel_rfl)
theorem ld42 {w : World} {a : Addr} {v : Value} (h : w.cell? a = some v) : Rd Try.prog (WS.at w) (sLoad 42 (.pointer (some a))) k = k v := rd_load1 one42 (fun _ hw => by rw [hw]; exact h)
theorem ldS42 {a : Addr} {v : Value} (h : ∀ w, S.S w → w.cell? a = some v) : Rd Try.prog S (sLoad 42 (.pointer (some a))) k = k v := rd_load1 one42 h
theorem ldB42 {w : World} {b off e : Nat} {cs : List Value} {v : Value} (hb : Box w b cs e) (h : cs[off]? = some v) : Rd Try.prog (WS.at w) (sLoad 42 (.pointer (some ⟨b, off, none⟩))) k = k v := ld42 ((hb.cell off).trans h)
theorem sz43 : szOf Try.prog 43 1 := szOf_of (by kernel_rfl)
theorem one43 : one Try.prog 43 := one_of (by kernel_rfl)
theorem ld43 {w : World} {a : Addr} {v : Value} (h : w.cell? a = some v) : Rd Try.prog (WS.at w) (sLoad 43 (.pointer (some a))) k = k v := rd_load1 one43 (fun _ hw => by rw [hw]; exact h)
theorem ldS43 {a : Addr} {v : Value} (h : ∀ w, S.S w → w.cell? a = some v) : Rd Try.prog S (sLoad 43 (.pointer (some a))) k = k v := rd_load1 one43 h
theorem ldB43 {w : World} {b off e : Nat} {cs : List Value} {v : Value} (hb : Box w b cs e) (h : cs[off]? = some v) : Rd Try.prog (WS.at w) (sLoad 43 (.pointer (some ⟨b, off, none⟩))) k = k v := ld43 ((hb.cell off).trans h)
theorem sz44 : szOf Try.prog 44 1 := szOf_of (by kernel_rfl)
theorem one44 : one Try.prog 44 := one_of (by kernel_rfl)
theorem ld44 {w : World} {a : Addr} {v : Value} (h : w.cell? a = some v) : Rd Try.prog (WS.at w) (sLoad 44 (.pointer (some a))) k = k v := rd_load1 one44 (fun _ hw => by rw [hw]; exact h)
theorem ldS44 {a : Addr} {v : Value} (h : ∀ w, S.S w → w.cell? a = some v) : Rd Try.prog S (sLoad 44 (.pointer (some a))) k = k v := rd_load1 one44 h
theorem ldB44 {w : World} {b off e : Nat} {cs : List Value} {v : Value} (hb : Box w b cs e) (h : cs[off]? = some v) : Rd Try.prog (WS.at w) (sLoad 44 (.pointer (some ⟨b, off, none⟩))) k = k v := ld44 ((hb.cell off).trans h)
theorem sz45 : szOf Try.prog 45 1 := szOf_of (by kernel_rfl)
theorem one45 : one Try.prog 45 := one_of (by kernel_rfl)
theorem ld45 {w : World} {a : Addr} {v : Value} (h : w.cell? a = some v) : Rd Try.prog (WS.at w) (sLoad 45 (.pointer (some a))) k = k v := rd_load1 one45 (fun _ hw => by rw [hw]; exact h)
theorem ldS45 {a : Addr} {v : Value} (h : ∀ w, S.S w → w.cell? a = some v) : Rd Try.prog S (sLoad 45 (.pointer (some a))) k = k v := rd_load1 one45 h
theorem ldB45 {w : World} {b off e : Nat} {cs : List Value} {v : Value} (hb : Box w b cs e) (h : cs[off]? = some v) : Rd Try.prog (WS.at w) (sLoad 45 (.pointer (some ⟨b, off, none⟩))) k = k v := ld45 ((hb.cell off).trans h)
theorem sz46 : szOf Try.prog 46 1 := szOf_of (by kernel_rfl)
theorem one46 : one Try.prog 46 := one_of (by kernel_rfl)
theorem ld46 {w : World} {a : Addr} {v : Value} (h : w.cell? a = some v) : Rd Try.prog (WS.at w) (sLoad 46 (.pointer (some a))) k = k v := rd_load1 one46 (fun _ hw => by rw [hw]; exact h)
theorem ldS46 {a : Addr} {v : Value} (h : ∀ w, S.S w → w.cell? a = some v) : Rd Try.prog S (sLoad 46 (.pointer (some a))) k = k v := rd_load1 one46 h
theorem ldB46 {w : World} {b off e : Nat} {cs : List Value} {v : Value} (hb : Box w b cs e) (h : cs[off]? = some v) : Rd Try.prog (WS.at w) (sLoad 46 (.pointer (some ⟨b, off, none⟩))) k = k v := ld46 ((hb.cell off).trans h)
theorem sz47 : szOf Try.prog 47 1 := szOf_of (by kernel_rfl)
theorem one47 : one Try.prog 47 := one_of (by kernel_rfl)
theorem ld47 {w : World} {a : Addr} {v : Value} (h : w.cell? a = some v) : Rd Try.prog (WS.at w) (sLoad 47 (.pointer (some a))) k = k v := rd_load1 one47 (fun _ hw => by rw [hw]; exact h)
theorem ldS47 {a : Addr} {v : Value} (h : ∀ w, S.S w → w.cell? a = some v) : Rd Try.prog S (sLoad 47 (.pointer (some a))) k = k v := rd_load1 one47 h
theorem ldB47 {w : World} {b off e : Nat} {cs : List Value} {v : Value} (hb : Box w b cs e) (h : cs[off]? = some v) : Rd Try.prog (WS.at w) (sLoad 47 (.pointer (some ⟨b, off, none⟩))) k = k v := ld47 ((hb.cell off).trans h)
theorem u48 : Try.prog.underlying 48 = some (.slice 22) := by kernel_rfl
@[go_sem] theorem len48 {cs : List Bool} {u : TypeId} {X : Option Addr} {n c : Nat} : Rd Try.prog S (sBuiltin .len #[48] u cs [.slice X n c]) k = k (.int .i64 n) := len_slice u48
theorem ix48 {X : Option Addr} {n c : Nat} {kd : IntKind} {i : Int} (hA : 0 < n → X = some (ad X)) (h0 : 0 ≤ i) (h1 : i < n) : Rd Try.prog S (sIndexAddr 48 (.slice X n c) (.int kd i)) k = k (.pointer (some ((ad X).add i.toNat))) := by rw [rd_indexAddr u48 sz22 hA h0 h1, Nat.mul_one]
theorem ixn48 {X : Option Addr} {n c : Nat} {kd : IntKind} {i : Nat} (hA : 0 < n → X = some (ad X)) (h1 : i < n) : Rd Try.prog S (sIndexAddr 48 (.slice X n c) (.int kd i)) k = k (.pointer (some ((ad X).add i))) := ix48 hA (Int.natCast_nonneg i) (Int.ofNat_lt.2 h1)
theorem ix48_0 {X : Option Addr} {n c : Nat} {kd : IntKind} (hA : 0 < n → X = some (ad X)) (h1 : 0 < n) : Rd Try.prog S (sIndexAddr 48 (.slice X n c) (.int kd 0)) k = k (.pointer (some ((ad X).add 0))) := ixn48 (i := 0) hA h1
theorem ix48_1 {X : Option Addr} {n c : Nat} {kd : IntKind} (hA : 0 < n → X = some (ad X)) (h1 : 1 < n) : Rd Try.prog S (sIndexAddr 48 (.slice X n c) (.int kd 1)) k = k (.pointer (some ((ad X).add 1))) := ixn48 (i := 1) hA h1
theorem ix48_2 {X : Option Addr} {n c : Nat} {kd : IntKind} (hA : 0 < n → X = some (ad X)) (h1 : 2 < n) : Rd Try.prog S (sIndexAddr 48 (.slice X n c) (.int kd 2)) k = k (.pointer (some ((ad X).add 2))) := ixn48 (i := 2) hA h1
theorem ix48_3 {X : Option Addr} {n c : Nat} {kd : IntKind} (hA : 0 < n → X = some (ad X)) (h1 : 3 < n) : Rd Try.prog S (sIndexAddr 48 (.slice X n c) (.int kd 3)) k = k (.pointer (some ((ad X).add 3))) := ixn48 (i := 3) hA h1
theorem ix48_4 {X : Option Addr} {n c : Nat} {kd : IntKind} (hA : 0 < n → X = some (ad X)) (h1 : 4 < n) : Rd Try.prog S (sIndexAddr 48 (.slice X n c) (.int kd 4)) k = k (.pointer (some ((ad X).add 4))) := ixn48 (i := 4) hA h1
theorem ix48_5 {X : Option Addr} {n c : Nat} {kd : IntKind} (hA : 0 < n → X = some (ad X)) (h1 : 5 < n) : Rd Try.prog S (sIndexAddr 48 (.slice X n c) (.int kd 5)) k = k (.pointer (some ((ad X).add 5))) := ixn48 (i := 5) hA h1
theorem inf22 : ∃ i, Try.prog.info? 22 = some i ∧ i.zero = some (.slice none 0 0) ∧ i.size = 1 ∧ i.bytes = 24 := inf_of (by kernel_rfl)
theorem ap48 {w : World} {k : Value → World → Prop} {u : TypeId} {cs : List Bool} {B n c m d : Nat} {X Y : Option Addr} {cells news : List Value} (hO : Row w B 22 1 X n c cells) (hS : Src w Y news) (hl : news.length = m * 1) (h1 : ∀ v ∈ news, v.oneCell' = true) (hm : (n + m) * 24 ≤ 140737488355328) (hB : B ≤ w.heap.size) (h : ∀ X' c' w', Row w' B 22 1 X' (n + m) c' (cells ++ news) → w.grownBy w' (blk X) → k (.slice X' (n + m) c') w') : Do Try.prog (sBuiltin .append #[48, 48] u cs [.slice X n c, .slice Y m d]) k w := do_append_of u48 inf22 rfl (by decide) hO hS hl h1 hm (by omega) hB h
theorem mk48 {w : World} {k : Value → World → Prop} {kl kc : IntKind} {n : Nat} (hm : n * 24 ≤ 281474976710656) (h : ∀ b w', w.heap.size ≤ b → b < w'.heap.size → Gr w w' → (∀ B, B ≤ w.heap.size → Row w' B 22 1 (some ⟨b, 0, none⟩) n n (madeCells (Value.cells (.slice none 0 0)) (n * 1)).toList) → k (.slice (some ⟨b, 0, none⟩) n n) w') : Do Try.prog (sMakeSlice 48 (.int kl n) (.int kc n)) k w := do_make_of u48 inf22 (by omega) (by omega) h
theorem bs48 {w : World} {k : Value → World → Prop} {n : Nat} {ps : List (Nat × Value)} (cells : List Value) (hn : n ≤ 65536) (hf : Instr.fill (fun j => some (j * 1, 1)) (madeCells (if n * 1 = 0 then #[] else Value.cells (.slice none 0 0)) (n * 1)) ps = some cells.toArray) (hl : cells.length = n * 1) (h : ∀ b w', w.heap.size ≤ b → b < w'.heap.size → Gr w w' → Box w' b cells 22 → (∀ B, B ≤ w.heap.size → Row w' B 22 1 (some ⟨b, 0, none⟩) n n cells) → k (.slice (some ⟨b, 0, none⟩) n n) w') : Do Try.prog (sBuildSlice 48 n ps) k w := do_build_of u48 inf22 (by omega) (by omega) hf hl h
theorem sl48 {X : Option Addr} {n c : Nat} {kd kd' : IntKind} {l h : Int} (h0 : 0 ≤ l) (h1 : l ≤ h) (h2 : h ≤ c) : Rd Try.prog S (sSlice 48 (.slice X n c) (some (.int kd l)) (some (.int kd' h)) none) k = k (.slice (sub X l.toNat c 1) (h.toNat - l.toNat) (c - l.toNat)) := rd_slice_lh u48 sz22 h0 h1 h2
theorem slh48 {X : Option Addr} {n c : Nat} {kd' : IntKind} {h : Int} (h1 : 0 ≤ h) (h2 : h ≤ c) : Rd Try.prog S (sSlice 48 (.slice X n c) none (some (.int kd' h)) none) k = k (.slice (sub X 0 c 1) h.toNat c) := rd_slice_h u48 sz22 h1 h2
theorem sll48 {X : Option Addr} {n c : Nat} {kd : IntKind} {l : Int} (h0 : 0 ≤ l) (h1 : l ≤ n) : Rd Try.prog S (sSlice 48 (.slice X n c) (some (.int kd l)) none none) k = k (.slice (sub X l.toNat c 1) (n - l.toNat) (c - l.toNat)) := rd_slice_l u48 sz22 h0 h1
theorem sz48 : szOf Try.prog 48 1 := szOf_of (by kernel_rfl)
theorem one48 : one Try.prog 48 := one_of (by kernel_rfl)
theorem ld48 {w : World} {a : Addr} {v : Value} (h : w.cell? a = some v) : Rd Try.prog (WS.at w) (sLoad 48 (.pointer (some a))) k = k v := rd_load1 one48 (fun _ hw => by rw [hw]; exact h)
theorem ldS48 {a : Addr} {v : Value} (h : ∀ w, S.S w → w.cell? a = some v) : Rd Try.prog S (sLoad 48 (.pointer (some a))) k = k v := rd_load1 one48 h
theorem ldB48 {w : World} {b off e : Nat} {cs : List Value} {v : Value} (hb : Box w b cs e) (h : cs[off]? = some v) : Rd Try.prog (WS.at w) (sLoad 48 (.pointer (some ⟨b, off, none⟩))) k = k v := ld48 ((hb.cell off).trans h)
theorem sz50 : szOf Try.prog 50 1 := szOf_of (by kernel_rfl)
theorem one50 : one Try.prog 50 := one_of (by kernel_rfl)
theorem ld50 {w : World} {a : Addr} {v : Value} (h : w.cell? a = some v) : Rd Try.prog (WS.at w) (sLoad 50 (.pointer (some a))) k = k v := rd_load1 one50 (fun _ hw => by rw [hw]; exact h)
theorem ldS50 {a : Addr} {v : Value} (h : ∀ w, S.S w → w.cell? a = some v) : Rd Try.prog S (sLoad 50 (.pointer (some a))) k = k v := rd_load1 one50 h
theorem ldB50 {w : World} {b off e : Nat} {cs : List Value} {v : Value} (hb : Box w b cs e) (h : cs[off]? = some v) : Rd Try.prog (WS.at w) (sLoad 50 (.pointer (some ⟨b, off, none⟩))) k = k v := ld50 ((hb.cell off).trans h)
theorem sz51 : szOf Try.prog 51 1 := szOf_of (by kernel_rfl)
theorem one51 : one Try.prog 51 := one_of (by kernel_rfl)
theorem ld51 {w : World} {a : Addr} {v : Value} (h : w.cell? a = some v) : Rd Try.prog (WS.at w) (sLoad 51 (.pointer (some a))) k = k v := rd_load1 one51 (fun _ hw => by rw [hw]; exact h)
theorem ldS51 {a : Addr} {v : Value} (h : ∀ w, S.S w → w.cell? a = some v) : Rd Try.prog S (sLoad 51 (.pointer (some a))) k = k v := rd_load1 one51 h
theorem ldB51 {w : World} {b off e : Nat} {cs : List Value} {v : Value} (hb : Box w b cs e) (h : cs[off]? = some v) : Rd Try.prog (WS.at w) (sLoad 51 (.pointer (some ⟨b, off, none⟩))) k = k v := ld51 ((hb.cell off).trans h)
theorem sz52 : szOf Try.prog 52 1 := szOf_of (by kernel_rfl)
theorem one52 : one Try.prog 52 := one_of (by kernel_rfl)
theorem ld52 {w : World} {a : Addr} {v : Value} (h : w.cell? a = some v) : Rd Try.prog (WS.at w) (sLoad 52 (.pointer (some a))) k = k v := rd_load1 one52 (fun _ hw => by rw [hw]; exact h)
theorem ldS52 {a : Addr} {v : Value} (h : ∀ w, S.S w → w.cell? a = some v) : Rd Try.prog S (sLoad 52 (.pointer (some a))) k = k v := rd_load1 one52 h
theorem ldB52 {w : World} {b off e : Nat} {cs : List Value} {v : Value} (hb : Box w b cs e) (h : cs[off]? = some v) : Rd Try.prog (WS.at w) (sLoad 52 (.pointer (some ⟨b, off, none⟩))) k = k v := ld52 ((hb.cell off).trans h)
theorem sz53 : szOf Try.prog 53 1 := szOf_of (by kernel_rfl)
theorem one53 : one Try.prog 53 := one_of (by kernel_rfl)
theorem ld53 {w : World} {a : Addr} {v : Value} (h : w.cell? a = some v) : Rd Try.prog (WS.at w) (sLoad 53 (.pointer (some a))) k = k v := rd_load1 one53 (fun _ hw => by rw [hw]; exact h)
theorem ldS53 {a : Addr} {v : Value} (h : ∀ w, S.S w → w.cell? a = some v) : Rd Try.prog S (sLoad 53 (.pointer (some a))) k = k v := rd_load1 one53 h
theorem ldB53 {w : World} {b off e : Nat} {cs : List Value} {v : Value} (hb : Box w b cs e) (h : cs[off]? = some v) : Rd Try.prog (WS.at w) (sLoad 53 (.pointer (some ⟨b, off, none⟩))) k = k v := ld53 ((hb.cell off).trans h)
theorem sz55 : szOf Try.prog 55 1 := szOf_of (by kernel_rfl)
theorem one55 : one Try.prog 55 := one_of (by kernel_rfl)
theorem ld55 {w : World} {a : Addr} {v : Value} (h : w.cell? a = some v) : Rd Try.prog (WS.at w) (sLoad 55 (.pointer (some a))) k = k v := rd_load1 one55 (fun _ hw => by rw [hw]; exact h)
theorem ldS55 {a : Addr} {v : Value} (h : ∀ w, S.S w → w.cell? a = some v) : Rd Try.prog S (sLoad 55 (.pointer (some a))) k = k v := rd_load1 one55 h
theorem ldB55 {w : World} {b off e : Nat} {cs : List Value} {v : Value} (hb : Box w b cs e) (h : cs[off]? = some v) : Rd Try.prog (WS.at w) (sLoad 55 (.pointer (some ⟨b, off, none⟩))) k = k v := ld55 ((hb.cell off).trans h)
theorem sz56 : szOf Try.prog 56 1 := szOf_of (by kernel_rfl)
theorem one56 : one Try.prog 56 := one_of (by kernel_rfl)
theorem ld56 {w : World} {a : Addr} {v : Value} (h : w.cell? a = some v) : Rd Try.prog (WS.at w) (sLoad 56 (.pointer (some a))) k = k v := rd_load1 one56 (fun _ hw => by rw [hw]; exact h)
theorem ldS56 {a : Addr} {v : Value} (h : ∀ w, S.S w → w.cell? a = some v) : Rd Try.prog S (sLoad 56 (.pointer (some a))) k = k v := rd_load1 one56 h
theorem ldB56 {w : World} {b off e : Nat} {cs : List Value} {v : Value} (hb : Box w b cs e) (h : cs[off]? = some v) : Rd Try.prog (WS.at w) (sLoad 56 (.pointer (some ⟨b, off, none⟩))) k = k v := ld56 ((hb.cell off).trans h)
theorem sz57 : szOf Try.prog 57 1 := szOf_of (by kernel_rfl)
theorem one57 : one Try.prog 57 := one_of (by kernel_rfl)
theorem ld57 {w : World} {a : Addr} {v : Value} (h : w.cell? a = some v) : Rd Try.prog (WS.at w) (sLoad 57 (.pointer (some a))) k = k v := rd_load1 one57 (fun _ hw => by rw [hw]; exact h)
theorem ldS57 {a : Addr} {v : Value} (h : ∀ w, S.S w → w.cell? a = some v) : Rd Try.prog S (sLoad 57 (.pointer (some a))) k = k v := rd_load1 one57 h
theorem ldB57 {w : World} {b off e : Nat} {cs : List Value} {v : Value} (hb : Box w b cs e) (h : cs[off]? = some v) : Rd Try.prog (WS.at w) (sLoad 57 (.pointer (some ⟨b, off, none⟩))) k = k v := ld57 ((hb.cell off).trans h)
theorem sz58 : szOf Try.prog 58 1 := szOf_of (by kernel_rfl)
theorem one58 : one Try.prog 58 := one_of (by kernel_rfl)
theorem ld58 {w : World} {a : Addr} {v : Value} (h : w.cell? a = some v) : Rd Try.prog (WS.at w) (sLoad 58 (.pointer (some a))) k = k v := rd_load1 one58 (fun _ hw => by rw [hw]; exact h)
theorem ldS58 {a : Addr} {v : Value} (h : ∀ w, S.S w → w.cell? a = some v) : Rd Try.prog S (sLoad 58 (.pointer (some a))) k = k v := rd_load1 one58 h
theorem ldB58 {w : World} {b off e : Nat} {cs : List Value} {v : Value} (hb : Box w b cs e) (h : cs[off]? = some v) : Rd Try.prog (WS.at w) (sLoad 58 (.pointer (some ⟨b, off, none⟩))) k = k v := ld58 ((hb.cell off).trans h)
theorem sz59 : szOf Try.prog 59 1 := szOf_of (by kernel_rfl)
theorem one59 : one Try.prog 59 := one_of (by kernel_rfl)
theorem ld59 {w : World} {a : Addr} {v : Value} (h : w.cell? a = some v) : Rd Try.prog (WS.at w) (sLoad 59 (.pointer (some a))) k = k v := rd_load1 one59 (fun _ hw => by rw [hw]; exact h)
theorem ldS59 {a : Addr} {v : Value} (h : ∀ w, S.S w → w.cell? a = some v) : Rd Try.prog S (sLoad 59 (.pointer (some a))) k = k v := rd_load1 one59 h
theorem ldB59 {w : World} {b off e : Nat} {cs : List Value} {v : Value} (hb : Box w b cs e) (h : cs[off]? = some v) : Rd Try.prog (WS.at w) (sLoad 59 (.pointer (some ⟨b, off, none⟩))) k = k v := ld59 ((hb.cell off).trans h)
theorem sz60 : szOf Try.prog 60 1 := szOf_of (by kernel_rfl)
theorem one60 : one Try.prog 60 := one_of (by kernel_rfl)
theorem ld60 {w : World} {a : Addr} {v : Value} (h : w.cell? a = some v) : Rd Try.prog (WS.at w) (sLoad 60 (.pointer (some a))) k = k v := rd_load1 one60 (fun _ hw => by rw [hw]; exact h)
theorem ldS60 {a : Addr} {v : Value} (h : ∀ w, S.S w → w.cell? a = some v) : Rd Try.prog S (sLoad 60 (.pointer (some a))) k = k v := rd_load1 one60 h
theorem ldB60 {w : World} {b off e : Nat} {cs : List Value} {v : Value} (hb : Box w b cs e) (h : cs[off]? = some v) : Rd Try.prog (WS.at w) (sLoad 60 (.pointer (some ⟨b, off, none⟩))) k = k v := ld60 ((hb.cell off).trans h)
theorem sz61 : szOf Try.prog 61 1 := szOf_of (by kernel_rfl)
theorem one61 : one Try.prog 61 := one_of (by kernel_rfl)
theorem ld61 {w : World} {a : Addr} {v : Value} (h : w.cell? a = some v) : Rd Try.prog (WS.at w) (sLoad 61 (.pointer (some a))) k = k v := rd_load1 one61 (fun _ hw => by rw [hw]; exact h)
theorem ldS61 {a : Addr} {v : Value} (h : ∀ w, S.S w → w.cell? a = some v) : Rd Try.prog S (sLoad 61 (.pointer (some a))) k = k v := rd_load1 one61 h
theorem ldB61 {w : World} {b off e : Nat} {cs : List Value} {v : Value} (hb : Box w b cs e) (h : cs[off]? = some v) : Rd Try.prog (WS.at w) (sLoad 61 (.pointer (some ⟨b, off, none⟩))) k = k v := ld61 ((hb.cell off).trans h)
theorem sz62 : szOf Try.prog 62 1 := szOf_of (by kernel_rfl)
theorem one62 : one Try.prog 62 := one_of (by kernel_rfl)
theorem ld62 {w : World} {a : Addr} {v : Value} (h : w.cell? a = some v) : Rd Try.prog (WS.at w) (sLoad 62 (.pointer (some a))) k = k v := rd_load1 one62 (fun _ hw => by rw [hw]; exact h)
theorem ldS62 {a : Addr} {v : Value} (h : ∀ w, S.S w → w.cell? a = some v) : Rd Try.prog S (sLoad 62 (.pointer (some a))) k = k v := rd_load1 one62 h
theorem ldB62 {w : World} {b off e : Nat} {cs : List Value} {v : Value} (hb : Box w b cs e) (h : cs[off]? = some v) : Rd Try.prog (WS.at w) (sLoad 62 (.pointer (some ⟨b, off, none⟩))) k = k v := ld62 ((hb.cell off).trans h)
theorem sz63 : szOf Try.prog 63 1 := szOf_of (by kernel_rfl)
theorem one63 : one Try.prog 63 := one_of (by kernel_rfl)
theorem ld63 {w : World} {a : Addr} {v : Value} (h : w.cell? a = some v) : Rd Try.prog (WS.at w) (sLoad 63 (.pointer (some a))) k = k v := rd_load1 one63 (fun _ hw => by rw [hw]; exact h)
theorem ldS63 {a : Addr} {v : Value} (h : ∀ w, S.S w → w.cell? a = some v) : Rd Try.prog S (sLoad 63 (.pointer (some a))) k = k v := rd_load1 one63 h
theorem ldB63 {w : World} {b off e : Nat} {cs : List Value} {v : Value} (hb : Box w b cs e) (h : cs[off]? = some v) : Rd Try.prog (WS.at w) (sLoad 63 (.pointer (some ⟨b, off, none⟩))) k = k v := ld63 ((hb.cell off).trans h)
theorem sz64 : szOf Try.prog 64 1 := szOf_of (by kernel_rfl)
theorem one64 : one Try.prog 64 := one_of (by kernel_rfl)
theorem ld64 {w : World} {a : Addr} {v : Value} (h : w.cell? a = some v) : Rd Try.prog (WS.at w) (sLoad 64 (.pointer (some a))) k = k v := rd_load1 one64 (fun _ hw => by rw [hw]; exact h)
theorem ldS64 {a : Addr} {v : Value} (h : ∀ w, S.S w → w.cell? a = some v) : Rd Try.prog S (sLoad 64 (.pointer (some a))) k = k v := rd_load1 one64 h
theorem ldB64 {w : World} {b off e : Nat} {cs : List Value} {v : Value} (hb : Box w b cs e) (h : cs[off]? = some v) : Rd Try.prog (WS.at w) (sLoad 64 (.pointer (some ⟨b, off, none⟩))) k = k v := ld64 ((hb.cell off).trans h)
theorem sz65 : szOf Try.prog 65 1 := szOf_of (by kernel_rfl)
theorem one65 : one Try.prog 65 := one_of (by kernel_rfl)
theorem ld65 {w : World} {a : Addr} {v : Value} (h : w.cell? a = some v) : Rd Try.prog (WS.at w) (sLoad 65 (.pointer (some a))) k = k v := rd_load1 one65 (fun _ hw => by rw [hw]; exact h)
theorem ldS65 {a : Addr} {v : Value} (h : ∀ w, S.S w → w.cell? a = some v) : Rd Try.prog S (sLoad 65 (.pointer (some a))) k = k v := rd_load1 one65 h
theorem ldB65 {w : World} {b off e : Nat} {cs : List Value} {v : Value} (hb : Box w b cs e) (h : cs[off]? = some v) : Rd Try.prog (WS.at w) (sLoad 65 (.pointer (some ⟨b, off, none⟩))) k = k v := ld65 ((hb.cell off).trans h)
theorem sz66 : szOf Try.prog 66 1 := szOf_of (by kernel_rfl)
theorem one66 : one Try.prog 66 := one_of (by kernel_rfl)
theorem ld66 {w : World} {a : Addr} {v : Value} (h : w.cell? a = some v) : Rd Try.prog (WS.at w) (sLoad 66 (.pointer (some a))) k = k v := rd_load1 one66 (fun _ hw => by rw [hw]; exact h)
theorem ldS66 {a : Addr} {v : Value} (h : ∀ w, S.S w → w.cell? a = some v) : Rd Try.prog S (sLoad 66 (.pointer (some a))) k = k v := rd_load1 one66 h
theorem ldB66 {w : World} {b off e : Nat} {cs : List Value} {v : Value} (hb : Box w b cs e) (h : cs[off]? = some v) : Rd Try.prog (WS.at w) (sLoad 66 (.pointer (some ⟨b, off, none⟩))) k = k v := ld66 ((hb.cell off).trans h)
theorem sz67 : szOf Try.prog 67 1 := szOf_of (by kernel_rfl)
theorem one67 : one Try.prog 67 := one_of (by kernel_rfl)
theorem ld67 {w : World} {a : Addr} {v : Value} (h : w.cell? a = some v) : Rd Try.prog (WS.at w) (sLoad 67 (.pointer (some a))) k = k v := rd_load1 one67 (fun _ hw => by rw [hw]; exact h)
theorem ldS67 {a : Addr} {v : Value} (h : ∀ w, S.S w → w.cell? a = some v) : Rd Try.prog S (sLoad 67 (.pointer (some a))) k = k v := rd_load1 one67 h
theorem ldB67 {w : World} {b off e : Nat} {cs : List Value} {v : Value} (hb : Box w b cs e) (h : cs[off]? = some v) : Rd Try.prog (WS.at w) (sLoad 67 (.pointer (some ⟨b, off, none⟩))) k = k v := ld67 ((hb.cell off).trans h)
theorem sz68 : szOf Try.prog 68 1 := szOf_of (by kernel_rfl)
theorem one68 : one Try.prog 68 := one_of (by kernel_rfl)
theorem ld68 {w : World} {a : Addr} {v : Value} (h : w.cell? a = some v) : Rd Try.prog (WS.at w) (sLoad 68 (.pointer (some a))) k = k v := rd_load1 one68 (fun _ hw => by rw [hw]; exact h)
theorem ldS68 {a : Addr} {v : Value} (h : ∀ w, S.S w → w.cell? a = some v) : Rd Try.prog S (sLoad 68 (.pointer (some a))) k = k v := rd_load1 one68 h
theorem ldB68 {w : World} {b off e : Nat} {cs : List Value} {v : Value} (hb : Box w b cs e) (h : cs[off]? = some v) : Rd Try.prog (WS.at w) (sLoad 68 (.pointer (some ⟨b, off, none⟩))) k = k v := ld68 ((hb.cell off).trans h)
theorem sz69 : szOf Try.prog 69 1 := szOf_of (by kernel_rfl)
theorem one69 : one Try.prog 69 := one_of (by kernel_rfl)
theorem ld69 {w : World} {a : Addr} {v : Value} (h : w.cell? a = some v) : Rd Try.prog (WS.at w) (sLoad 69 (.pointer (some a))) k = k v := rd_load1 one69 (fun _ hw => by rw [hw]; exact h)
theorem ldS69 {a : Addr} {v : Value} (h : ∀ w, S.S w → w.cell? a = some v) : Rd Try.prog S (sLoad 69 (.pointer (some a))) k = k v := rd_load1 one69 h
theorem ldB69 {w : World} {b off e : Nat} {cs : List Value} {v : Value} (hb : Box w b cs e) (h : cs[off]? = some v) : Rd Try.prog (WS.at w) (sLoad 69 (.pointer (some ⟨b, off, none⟩))) k = k v := ld69 ((hb.cell off).trans h)
theorem sz70 : szOf Try.prog 70 1 := szOf_of (by kernel_rfl)
theorem one70 : one Try.prog 70 := one_of (by kernel_rfl)
theorem ld70 {w : World} {a : Addr} {v : Value} (h : w.cell? a = some v) : Rd Try.prog (WS.at w) (sLoad 70 (.pointer (some a))) k = k v := rd_load1 one70 (fun _ hw => by rw [hw]; exact h)
theorem ldS70 {a : Addr} {v : Value} (h : ∀ w, S.S w → w.cell? a = some v) : Rd Try.prog S (sLoad 70 (.pointer (some a))) k = k v := rd_load1 one70 h
theorem ldB70 {w : World} {b off e : Nat} {cs : List Value} {v : Value} (hb : Box w b cs e) (h : cs[off]? = some v) : Rd Try.prog (WS.at w) (sLoad 70 (.pointer (some ⟨b, off, none⟩))) k = k v := ld70 ((hb.cell off).trans h)
theorem sz71 : szOf Try.prog 71 1 := szOf_of (by kernel_rfl)
theorem one71 : one Try.prog 71 := one_of (by kernel_rfl)
theorem ld71 {w : World} {a : Addr} {v : Value} (h : w.cell? a = some v) : Rd Try.prog (WS.at w) (sLoad 71 (.pointer (some a))) k = k v := rd_load1 one71 (fun _ hw => by rw [hw]; exact h)
theorem ldS71 {a : Addr} {v : Value} (h : ∀ w, S.S w → w.cell? a = some v) : Rd Try.prog S (sLoad 71 (.pointer (some a))) k = k v := rd_load1 one71 h
theorem ldB71 {w : World} {b off e : Nat} {cs : List Value} {v : Value} (hb : Box w b cs e) (h : cs[off]? = some v) : Rd Try.prog (WS.at w) (sLoad 71 (.pointer (some ⟨b, off, none⟩))) k = k v := ld71 ((hb.cell off).trans h)
theorem sz72 : szOf Try.prog 72 1 := szOf_of (by kernel_rfl)
theorem one72 : one Try.prog 72 := one_of (by kernel_rfl)
theorem ld72 {w : World} {a : Addr} {v : Value} (h : w.cell? a = some v) : Rd Try.prog (WS.at w) (sLoad 72 (.pointer (some a))) k = k v := rd_load1 one72 (fun _ hw => by rw [hw]; exact h)
theorem ldS72 {a : Addr} {v : Value} (h : ∀ w, S.S w → w.cell? a = some v) : Rd Try.prog S (sLoad 72 (.pointer (some a))) k = k v := rd_load1 one72 h
theorem ldB72 {w : World} {b off e : Nat} {cs : List Value} {v : Value} (hb : Box w b cs e) (h : cs[off]? = some v) : Rd Try.prog (WS.at w) (sLoad 72 (.pointer (some ⟨b, off, none⟩))) k = k v := ld72 ((hb.cell off).trans h)
theorem sz73 : szOf Try.prog 73 1 := szOf_of (by kernel_rfl)
theorem one73 : one Try.prog 73 := one_of (by kernel_rfl)
theorem ld73 {w : World} {a : Addr} {v : Value} (h : w.cell? a = some v) : Rd Try.prog (WS.at w) (sLoad 73 (.pointer (some a))) k = k v := rd_load1 one73 (fun _ hw => by rw [hw]; exact h)
theorem ldS73 {a : Addr} {v : Value} (h : ∀ w, S.S w → w.cell? a = some v) : Rd Try.prog S (sLoad 73 (.pointer (some a))) k = k v := rd_load1 one73 h
theorem ldB73 {w : World} {b off e : Nat} {cs : List Value} {v : Value} (hb : Box w b cs e) (h : cs[off]? = some v) : Rd Try.prog (WS.at w) (sLoad 73 (.pointer (some ⟨b, off, none⟩))) k = k v := ld73 ((hb.cell off).trans h)
theorem sz74 : szOf Try.prog 74 1 := szOf_of (by kernel_rfl)
theorem one74 : one Try.prog 74 := one_of (by kernel_rfl)
theorem ld74 {w : World} {a : Addr} {v : Value} (h : w.cell? a = some v) : Rd Try.prog (WS.at w) (sLoad 74 (.pointer (some a))) k = k v := rd_load1 one74 (fun _ hw => by rw [hw]; exact h)
theorem ldS74 {a : Addr} {v : Value} (h : ∀ w, S.S w → w.cell? a = some v) : Rd Try.prog S (sLoad 74 (.pointer (some a))) k = k v := rd_load1 one74 h
theorem ldB74 {w : World} {b off e : Nat} {cs : List Value} {v : Value} (hb : Box w b cs e) (h : cs[off]? = some v) : Rd Try.prog (WS.at w) (sLoad 74 (.pointer (some ⟨b, off, none⟩))) k = k v := ld74 ((hb.cell off).trans h)
theorem sz75 : szOf Try.prog 75 1 := szOf_of (by kernel_rfl)
theorem one75 : one Try.prog 75 := one_of (by kernel_rfl)
theorem ld75 {w : World} {a : Addr} {v : Value} (h : w.cell? a = some v) : Rd Try.prog (WS.at w) (sLoad 75 (.pointer (some a))) k = k v := rd_load1 one75 (fun _ hw => by rw [hw]; exact h)
theorem ldS75 {a : Addr} {v : Value} (h : ∀ w, S.S w → w.cell? a = some v) : Rd Try.prog S (sLoad 75 (.pointer (some a))) k = k v := rd_load1 one75 h
theorem ldB75 {w : World} {b off e : Nat} {cs : List Value} {v : Value} (hb : Box w b cs e) (h : cs[off]? = some v) : Rd Try.prog (WS.at w) (sLoad 75 (.pointer (some ⟨b, off, none⟩))) k = k v := ld75 ((hb.cell off).trans h)
theorem sz76 : szOf Try.prog 76 2 := szOf_of (by kernel_rfl)
theorem agg76 : agg Try.prog 76 := agg_of (by kernel_rfl)
@[go_sem] theorem fa77_0 {a : Addr} : Rd Try.prog S (sFieldAddr 77 (.pointer (some a)) 0) k = k (.pointer (some (a.add 0))) := rd_fieldAddr (fld_of (by kernel_rfl))
@[go_sem] theorem fa77_1 {a : Addr} : Rd Try.prog S (sFieldAddr 77 (.pointer (some a)) 1) k = k (.pointer (some (a.add 1))) := rd_fieldAddr (fld_of (by kernel_rfl))
theorem agg77 : agg Try.prog 77 := agg_of (by kernel_rfl)
theorem sz78 : szOf Try.prog 78 1 := szOf_of (by kernel_rfl)
theorem one78 : one Try.prog 78 := one_of (by kernel_rfl)
theorem ld78 {w : World} {a : Addr} {v : Value} (h : w.cell? a = some v) : Rd Try.prog (WS.at w) (sLoad 78 (.pointer (some a))) k = k v := rd_load1 one78 (fun _ hw => by rw [hw]; exact h)
theorem ldS78 {a : Addr} {v : Value} (h : ∀ w, S.S w → w.cell? a = some v) : Rd Try.prog S (sLoad 78 (.pointer (some a))) k = k v := rd_load1 one78 h
theorem ldB78 {w : World} {b off e : Nat} {cs : List Value} {v : Value} (hb : Box w b cs e) (h : cs[off]? = some v) : Rd Try.prog (WS.at w) (sLoad 78 (.pointer (some ⟨b, off, none⟩))) k = k v := ld78 ((hb.cell off).trans h)
theorem sz79 : szOf Try.prog 79 1 := szOf_of (by kernel_rfl)
theorem one79 : one Try.prog 79 := one_of (by kernel_rfl)
theorem ld79 {w : World} {a : Addr} {v : Value} (h : w.cell? a = some v) : Rd Try.prog (WS.at w) (sLoad 79 (.pointer (some a))) k = k v := rd_load1 one79 (fun _ hw => by rw [hw]; exact h)
theorem ldS79 {a : Addr} {v : Value} (h : ∀ w, S.S w → w.cell? a = some v) : Rd Try.prog S (sLoad 79 (.pointer (some a))) k = k v := rd_load1 one79 h
theorem ldB79 {w : World} {b off e : Nat} {cs : List Value} {v : Value} (hb : Box w b cs e) (h : cs[off]? = some v) : Rd Try.prog (WS.at w) (sLoad 79 (.pointer (some ⟨b, off, none⟩))) k = k v := ld79 ((hb.cell off).trans h)
theorem sz80 : szOf Try.prog 80 1 := szOf_of (by kernel_rfl)
theorem one80 : one Try.prog 80 := one_of (by kernel_rfl)
theorem ld80 {w : World} {a : Addr} {v : Value} (h : w.cell? a = some v) : Rd Try.prog (WS.at w) (sLoad 80 (.pointer (some a))) k = k v := rd_load1 one80 (fun _ hw => by rw [hw]; exact h)
theorem ldS80 {a : Addr} {v : Value} (h : ∀ w, S.S w → w.cell? a = some v) : Rd Try.prog S (sLoad 80 (.pointer (some a))) k = k v := rd_load1 one80 h
theorem ldB80 {w : World} {b off e : Nat} {cs : List Value} {v : Value} (hb : Box w b cs e) (h : cs[off]? = some v) : Rd Try.prog (WS.at w) (sLoad 80 (.pointer (some ⟨b, off, none⟩))) k = k v := ld80 ((hb.cell off).trans h)
theorem sz81 : szOf Try.prog 81 1 := szOf_of (by kernel_rfl)
theorem one81 : one Try.prog 81 := one_of (by kernel_rfl)
theorem ld81 {w : World} {a : Addr} {v : Value} (h : w.cell? a = some v) : Rd Try.prog (WS.at w) (sLoad 81 (.pointer (some a))) k = k v := rd_load1 one81 (fun _ hw => by rw [hw]; exact h)
theorem ldS81 {a : Addr} {v : Value} (h : ∀ w, S.S w → w.cell? a = some v) : Rd Try.prog S (sLoad 81 (.pointer (some a))) k = k v := rd_load1 one81 h
theorem ldB81 {w : World} {b off e : Nat} {cs : List Value} {v : Value} (hb : Box w b cs e) (h : cs[off]? = some v) : Rd Try.prog (WS.at w) (sLoad 81 (.pointer (some ⟨b, off, none⟩))) k = k v := ld81 ((hb.cell off).trans h)
theorem sz82 : szOf Try.prog 82 1 := szOf_of (by kernel_rfl)
theorem one82 : one Try.prog 82 := one_of (by kernel_rfl)
theorem ld82 {w : World} {a : Addr} {v : Value} (h : w.cell? a = some v) : Rd Try.prog (WS.at w) (sLoad 82 (.pointer (some a))) k = k v := rd_load1 one82 (fun _ hw => by rw [hw]; exact h)
theorem ldS82 {a : Addr} {v : Value} (h : ∀ w, S.S w → w.cell? a = some v) : Rd Try.prog S (sLoad 82 (.pointer (some a))) k = k v := rd_load1 one82 h
theorem ldB82 {w : World} {b off e : Nat} {cs : List Value} {v : Value} (hb : Box w b cs e) (h : cs[off]? = some v) : Rd Try.prog (WS.at w) (sLoad 82 (.pointer (some ⟨b, off, none⟩))) k = k v := ld82 ((hb.cell off).trans h)
theorem sz83 : szOf Try.prog 83 1 := szOf_of (by kernel_rfl)
theorem one83 : one Try.prog 83 := one_of (by kernel_rfl)
theorem ld83 {w : World} {a : Addr} {v : Value} (h : w.cell? a = some v) : Rd Try.prog (WS.at w) (sLoad 83 (.pointer (some a))) k = k v := rd_load1 one83 (fun _ hw => by rw [hw]; exact h)
theorem ldS83 {a : Addr} {v : Value} (h : ∀ w, S.S w → w.cell? a = some v) : Rd Try.prog S (sLoad 83 (.pointer (some a))) k = k v := rd_load1 one83 h
theorem ldB83 {w : World} {b off e : Nat} {cs : List Value} {v : Value} (hb : Box w b cs e) (h : cs[off]? = some v) : Rd Try.prog (WS.at w) (sLoad 83 (.pointer (some ⟨b, off, none⟩))) k = k v := ld83 ((hb.cell off).trans h)
theorem sz84 : szOf Try.prog 84 1 := szOf_of (by kernel_rfl)
theorem one84 : one Try.prog 84 := one_of (by kernel_rfl)
theorem ld84 {w : World} {a : Addr} {v : Value} (h : w.cell? a = some v) : Rd Try.prog (WS.at w) (sLoad 84 (.pointer (some a))) k = k v := rd_load1 one84 (fun _ hw => by rw [hw]; exact h)
theorem ldS84 {a : Addr} {v : Value} (h : ∀ w, S.S w → w.cell? a = some v) : Rd Try.prog S (sLoad 84 (.pointer (some a))) k = k v := rd_load1 one84 h
theorem ldB84 {w : World} {b off e : Nat} {cs : List Value} {v : Value} (hb : Box w b cs e) (h : cs[off]? = some v) : Rd Try.prog (WS.at w) (sLoad 84 (.pointer (some ⟨b, off, none⟩))) k = k v := ld84 ((hb.cell off).trans h)
theorem sz85 : szOf Try.prog 85 1 := szOf_of (by kernel_rfl)
theorem one85 : one Try.prog 85 := one_of (by kernel_rfl)
theorem ld85 {w : World} {a : Addr} {v : Value} (h : w.cell? a = some v) : Rd Try.prog (WS.at w) (sLoad 85 (.pointer (some a))) k = k v := rd_load1 one85 (fun _ hw => by rw [hw]; exact h)
theorem ldS85 {a : Addr} {v : Value} (h : ∀ w, S.S w → w.cell? a = some v) : Rd Try.prog S (sLoad 85 (.pointer (some a))) k = k v := rd_load1 one85 h
theorem ldB85 {w : World} {b off e : Nat} {cs : List Value} {v : Value} (hb : Box w b cs e) (h : cs[off]? = some v) : Rd Try.prog (WS.at w) (sLoad 85 (.pointer (some ⟨b, off, none⟩))) k = k v := ld85 ((hb.cell off).trans h)
theorem sz86 : szOf Try.prog 86 1 := szOf_of (by kernel_rfl)
theorem one86 : one Try.prog 86 := one_of (by kernel_rfl)
theorem ld86 {w : World} {a : Addr} {v : Value} (h : w.cell? a = some v) : Rd Try.prog (WS.at w) (sLoad 86 (.pointer (some a))) k = k v := rd_load1 one86 (fun _ hw => by rw [hw]; exact h)
theorem ldS86 {a : Addr} {v : Value} (h : ∀ w, S.S w → w.cell? a = some v) : Rd Try.prog S (sLoad 86 (.pointer (some a))) k = k v := rd_load1 one86 h
theorem ldB86 {w : World} {b off e : Nat} {cs : List Value} {v : Value} (hb : Box w b cs e) (h : cs[off]? = some v) : Rd Try.prog (WS.at w) (sLoad 86 (.pointer (some ⟨b, off, none⟩))) k = k v := ld86 ((hb.cell off).trans h)
theorem sz88 : szOf Try.prog 88 1 := szOf_of (by kernel_rfl)
theorem one88 : one Try.prog 88 := one_of (by kernel_rfl)
theorem ld88 {w : World} {a : Addr} {v : Value} (h : w.cell? a = some v) : Rd Try.prog (WS.at w) (sLoad 88 (.pointer (some a))) k = k v := rd_load1 one88 (fun _ hw => by rw [hw]; exact h)
theorem ldS88 {a : Addr} {v : Value} (h : ∀ w, S.S w → w.cell? a = some v) : Rd Try.prog S (sLoad 88 (.pointer (some a))) k = k v := rd_load1 one88 h
theorem ldB88 {w : World} {b off e : Nat} {cs : List Value} {v : Value} (hb : Box w b cs e) (h : cs[off]? = some v) : Rd Try.prog (WS.at w) (sLoad 88 (.pointer (some ⟨b, off, none⟩))) k = k v := ld88 ((hb.cell off).trans h)
theorem sz90 : szOf Try.prog 90 1 := szOf_of (by kernel_rfl)
theorem one90 : one Try.prog 90 := one_of (by kernel_rfl)
theorem ld90 {w : World} {a : Addr} {v : Value} (h : w.cell? a = some v) : Rd Try.prog (WS.at w) (sLoad 90 (.pointer (some a))) k = k v := rd_load1 one90 (fun _ hw => by rw [hw]; exact h)
theorem ldS90 {a : Addr} {v : Value} (h : ∀ w, S.S w → w.cell? a = some v) : Rd Try.prog S (sLoad 90 (.pointer (some a))) k = k v := rd_load1 one90 h
theorem ldB90 {w : World} {b off e : Nat} {cs : List Value} {v : Value} (hb : Box w b cs e) (h : cs[off]? = some v) : Rd Try.prog (WS.at w) (sLoad 90 (.pointer (some ⟨b, off, none⟩))) k = k v := ld90 ((hb.cell off).trans h)
theorem u91 : Try.prog.underlying 91 = some (.slice 86) := by kernel_rfl
@[go_sem] theorem len91 {cs : List Bool} {u : TypeId} {X : Option Addr} {n c : Nat} : Rd Try.prog S (sBuiltin .len #[91] u cs [.slice X n c]) k = k (.int .i64 n) := len_slice u91
theorem ix91 {X : Option Addr} {n c : Nat} {kd : IntKind} {i : Int} (hA : 0 < n → X = some (ad X)) (h0 : 0 ≤ i) (h1 : i < n) : Rd Try.prog S (sIndexAddr 91 (.slice X n c) (.int kd i)) k = k (.pointer (some ((ad X).add i.toNat))) := by rw [rd_indexAddr u91 sz86 hA h0 h1, Nat.mul_one]
theorem ixn91 {X : Option Addr} {n c : Nat} {kd : IntKind} {i : Nat} (hA : 0 < n → X = some (ad X)) (h1 : i < n) : Rd Try.prog S (sIndexAddr 91 (.slice X n c) (.int kd i)) k = k (.pointer (some ((ad X).add i))) := ix91 hA (Int.natCast_nonneg i) (Int.ofNat_lt.2 h1)
theorem ix91_0 {X : Option Addr} {n c : Nat} {kd : IntKind} (hA : 0 < n → X = some (ad X)) (h1 : 0 < n) : Rd Try.prog S (sIndexAddr 91 (.slice X n c) (.int kd 0)) k = k (.pointer (some ((ad X).add 0))) := ixn91 (i := 0) hA h1
theorem ix91_1 {X : Option Addr} {n c : Nat} {kd : IntKind} (hA : 0 < n → X = some (ad X)) (h1 : 1 < n) : Rd Try.prog S (sIndexAddr 91 (.slice X n c) (.int kd 1)) k = k (.pointer (some ((ad X).add 1))) := ixn91 (i := 1) hA h1
theorem ix91_2 {X : Option Addr} {n c : Nat} {kd : IntKind} (hA : 0 < n → X = some (ad X)) (h1 : 2 < n) : Rd Try.prog S (sIndexAddr 91 (.slice X n c) (.int kd 2)) k = k (.pointer (some ((ad X).add 2))) := ixn91 (i := 2) hA h1
theorem ix91_3 {X : Option Addr} {n c : Nat} {kd : IntKind} (hA : 0 < n → X = some (ad X)) (h1 : 3 < n) : Rd Try.prog S (sIndexAddr 91 (.slice X n c) (.int kd 3)) k = k (.pointer (some ((ad X).add 3))) := ixn91 (i := 3) hA h1
theorem ix91_4 {X : Option Addr} {n c : Nat} {kd : IntKind} (hA : 0 < n → X = some (ad X)) (h1 : 4 < n) : Rd Try.prog S (sIndexAddr 91 (.slice X n c) (.int kd 4)) k = k (.pointer (some ((ad X).add 4))) := ixn91 (i := 4) hA h1
theorem ix91_5 {X : Option Addr} {n c : Nat} {kd : IntKind} (hA : 0 < n → X = some (ad X)) (h1 : 5 < n) : Rd Try.prog S (sIndexAddr 91 (.slice X n c) (.int kd 5)) k = k (.pointer (some ((ad X).add 5))) := ixn91 (i := 5) hA h1
theorem inf86 : ∃ i, Try.prog.info? 86 = some i ∧ i.zero = some (.pointer none) ∧ i.size = 1 ∧ i.bytes = 8 := inf_of (by kernel_rfl)
theorem ap91 {w : World} {k : Value → World → Prop} {u : TypeId} {cs : List Bool} {B n c m d : Nat} {X Y : Option Addr} {cells news : List Value} (hO : Row w B 86 1 X n c cells) (hS : Src w Y news) (hl : news.length = m * 1) (h1 : ∀ v ∈ news, v.oneCell' = true) (hm : (n + m) * 8 ≤ 140737488355328) (hB : B ≤ w.heap.size) (h : ∀ X' c' w', Row w' B 86 1 X' (n + m) c' (cells ++ news) → w.grownBy w' (blk X) → k (.slice X' (n + m) c') w') : Do Try.prog (sBuiltin .append #[91, 91] u cs [.slice X n c, .slice Y m d]) k w := do_append_of u91 inf86 rfl (by decide) hO hS hl h1 hm (by omega) hB h
theorem mk91 {w : World} {k : Value → World → Prop} {kl kc : IntKind} {n : Nat} (hm : n * 8 ≤ 281474976710656) (h : ∀ b w', w.heap.size ≤ b → b < w'.heap.size → Gr w w' → (∀ B, B ≤ w.heap.size → Row w' B 86 1 (some ⟨b, 0, none⟩) n n (madeCells (Value.cells (.pointer none)) (n * 1)).toList) → k (.slice (some ⟨b, 0, none⟩) n n) w') : Do Try.prog (sMakeSlice 91 (.int kl n) (.int kc n)) k w := do_make_of u91 inf86 (by omega) (by omega) h
theorem bs91 {w : World} {k : Value → World → Prop} {n : Nat} {ps : List (Nat × Value)} (cells : List Value) (hn : n ≤ 65536) (hf : Instr.fill (fun j => some (j * 1, 1)) (madeCells (if n * 1 = 0 then #[] else Value.cells (.pointer none)) (n * 1)) ps = some cells.toArray) (hl : cells.length = n * 1) (h : ∀ b w', w.heap.size ≤ b → b < w'.heap.size → Gr w w' → Box w' b cells 86 → (∀ B, B ≤ w.heap.size → Row w' B 86 1 (some ⟨b, 0, none⟩) n n cells) → k (.slice (some ⟨b, 0, none⟩) n n) w') : Do Try.prog (sBuildSlice 91 n ps) k w := do_build_of u91 inf86 (by omega) (by omega) hf hl h
theorem sl91 {X : Option Addr} {n c : Nat} {kd kd' : IntKind} {l h : Int} (h0 : 0 ≤ l) (h1 : l ≤ h) (h2 : h ≤ c) : Rd Try.prog S (sSlice 91 (.slice X n c) (some (.int kd l)) (some (.int kd' h)) none) k = k (.slice (sub X l.toNat c 1) (h.toNat - l.toNat) (c - l.toNat)) := rd_slice_lh u91 sz86 h0 h1 h2
theorem slh91 {X : Option Addr} {n c : Nat} {kd' : IntKind} {h : Int} (h1 : 0 ≤ h) (h2 : h ≤ c) : Rd Try.prog S (sSlice 91 (.slice X n c) none (some (.int kd' h)) none) k = k (.slice (sub X 0 c 1) h.toNat c) := rd_slice_h u91 sz86 h1 h2
theorem sll91 {X : Option Addr} {n c : Nat} {kd : IntKind} {l : Int} (h0 : 0 ≤ l) (h1 : l ≤ n) : Rd Try.prog S (sSlice 91 (.slice X n c) (some (.int kd l)) none none) k = k (.slice (sub X l.toNat c 1) (n - l.toNat) (c - l.toNat)) := rd_slice_l u91 sz86 h0 h1
theorem sz91 : szOf Try.prog 91 1 := szOf_of (by kernel_rfl)
theorem one91 : one Try.prog 91 := one_of (by kernel_rfl)
theorem ld91 {w : World} {a : Addr} {v : Value} (h : w.cell? a = some v) : Rd Try.prog (WS.at w) (sLoad 91 (.pointer (some a))) k = k v := rd_load1 one91 (fun _ hw => by rw [hw]; exact h)
theorem ldS91 {a : Addr} {v : Value} (h : ∀ w, S.S w → w.cell? a = some v) : Rd Try.prog S (sLoad 91 (.pointer (some a))) k = k v := rd_load1 one91 h
theorem ldB91 {w : World} {b off e : Nat} {cs : List Value} {v : Value} (hb : Box w b cs e) (h : cs[off]? = some v) : Rd Try.prog (WS.at w) (sLoad 91 (.pointer (some ⟨b, off, none⟩))) k = k v := ld91 ((hb.cell off).trans h)
theorem sz92 : szOf Try.prog 92 7 := szOf_of (by kernel_rfl)
theorem agg92 : agg Try.prog 92 := agg_of (by kernel_rfl)
@[go_sem] theorem fa93_0 {a : Addr} : Rd Try.prog S (sFieldAddr 93 (.pointer (some a)) 0) k = k (.pointer (some (a.add 0))) := rd_fieldAddr (fld_of (by kernel_rfl))
@[go_sem] theorem fa93_1 {a : Addr} : Rd Try.prog S (sFieldAddr 93 (.pointer (some a)) 1) k = k (.pointer (some (a.add 1))) := rd_fieldAddr (fld_of (by kernel_rfl))
@[go_sem] theorem fa93_2 {a : Addr} : Rd Try.prog S (sFieldAddr 93 (.pointer (some a)) 2) k = k (.pointer (some (a.add 2))) := rd_fieldAddr (fld_of (by kernel_rfl))
@[go_sem] theorem fa93_3 {a : Addr} : Rd Try.prog S (sFieldAddr 93 (.pointer (some a)) 3) k = k (.pointer (some (a.add 3))) := rd_fieldAddr (fld_of (by kernel_rfl))
@[go_sem] theorem fa93_4 {a : Addr} : Rd Try.prog S (sFieldAddr 93 (.pointer (some a)) 4) k = k (.pointer (some (a.add 4))) := rd_fieldAddr (fld_of (by kernel_rfl))
@[go_sem] theorem fa93_5 {a : Addr} : Rd Try.prog S (sFieldAddr 93 (.pointer (some a)) 5) k = k (.pointer (some (a.add 5))) := rd_fieldAddr (fld_of (by kernel_rfl))
@[go_sem] theorem fa93_6 {a : Addr} : Rd Try.prog S (sFieldAddr 93 (.pointer (some a)) 6) k = k (.pointer (some (a.add 6))) := rd_fieldAddr (fld_of (by kernel_rfl))
theorem sz93 : szOf Try.prog 93 7 := szOf_of (by kernel_rfl)
theorem agg93 : agg Try.prog 93 := agg_of (by kernel_rfl)
theorem sz95 : szOf Try.prog 95 1 := szOf_of (by kernel_rfl)
theorem one95 : one Try.prog 95 := one_of (by kernel_rfl)
theorem ld95 {w : World} {a : Addr} {v : Value} (h : w.cell? a = some v) : Rd Try.prog (WS.at w) (sLoad 95 (.pointer (some a))) k = k v := rd_load1 one95 (fun _ hw => by rw [hw]; exact h)
theorem ldS95 {a : Addr} {v : Value} (h : ∀ w, S.S w → w.cell? a = some v) : Rd Try.prog S (sLoad 95 (.pointer (some a))) k = k v := rd_load1 one95 h
theorem ldB95 {w : World} {b off e : Nat} {cs : List Value} {v : Value} (hb : Box w b cs e) (h : cs[off]? = some v) : Rd Try.prog (WS.at w) (sLoad 95 (.pointer (some ⟨b, off, none⟩))) k = k v := ld95 ((hb.cell off).trans h)
theorem sz96 : szOf Try.prog 96 1 := szOf_of (by kernel_rfl)
theorem one96 : one Try.prog 96 := one_of (by kernel_rfl)
theorem ld96 {w : World} {a : Addr} {v : Value} (h : w.cell? a = some v) : Rd Try.prog (WS.at w) (sLoad 96 (.pointer (some a))) k = k v := rd_load1 one96 (fun _ hw => by rw [hw]; exact h)
theorem ldS96 {a : Addr} {v : Value} (h : ∀ w, S.S w → w.cell? a = some v) : Rd Try.prog S (sLoad 96 (.pointer (some a))) k = k v := rd_load1 one96 h
theorem ldB96 {w : World} {b off e : Nat} {cs : List Value} {v : Value} (hb : Box w b cs e) (h : cs[off]? = some v) : Rd Try.prog (WS.at w) (sLoad 96 (.pointer (some ⟨b, off, none⟩))) k = k v := ld96 ((hb.cell off).trans h)
theorem sz97 : szOf Try.prog 97 1 := szOf_of (by kernel_rfl)
theorem one97 : one Try.prog 97 := one_of (by kernel_rfl)
theorem ld97 {w : World} {a : Addr} {v : Value} (h : w.cell? a = some v) : Rd Try.prog (WS.at w) (sLoad 97 (.pointer (some a))) k = k v := rd_load1 one97 (fun _ hw => by rw [hw]; exact h)
theorem ldS97 {a : Addr} {v : Value} (h : ∀ w, S.S w → w.cell? a = some v) : Rd Try.prog S (sLoad 97 (.pointer (some a))) k = k v := rd_load1 one97 h
theorem ldB97 {w : World} {b off e : Nat} {cs : List Value} {v : Value} (hb : Box w b cs e) (h : cs[off]? = some v) : Rd Try.prog (WS.at w) (sLoad 97 (.pointer (some ⟨b, off, none⟩))) k = k v := ld97 ((hb.cell off).trans h)
theorem sz98 : szOf Try.prog 98 1 := szOf_of (by kernel_rfl)
theorem one98 : one Try.prog 98 := one_of (by kernel_rfl)
theorem ld98 {w : World} {a : Addr} {v : Value} (h : w.cell? a = some v) : Rd Try.prog (WS.at w) (sLoad 98 (.pointer (some a))) k = k v := rd_load1 one98 (fun _ hw => by rw [hw]; exact h)
theorem ldS98 {a : Addr} {v : Value} (h : ∀ w, S.S w → w.cell? a = some v) : Rd Try.prog S (sLoad 98 (.pointer (some a))) k = k v := rd_load1 one98 h
theorem ldB98 {w : World} {b off e : Nat} {cs : List Value} {v : Value} (hb : Box w b cs e) (h : cs[off]? = some v) : Rd Try.prog (WS.at w) (sLoad 98 (.pointer (some ⟨b, off, none⟩))) k = k v := ld98 ((hb.cell off).trans h)
theorem u99 : Try.prog.underlying 99 = some (.array 9 3) := by kernel_rfl
theorem ixa99 {a : Addr} {kd : IntKind} {i : Int} (h0 : 0 ≤ i) (h1 : i < 9) : Rd Try.prog S (sIndexAddr 99 (.pointer (some a)) (.int kd i)) k = k (.pointer (some (a.add i.toNat))) := by rw [rd_indexArr u99 sz3 h0 h1, Nat.mul_one]
theorem sz99 : szOf Try.prog 99 9 := szOf_of (by kernel_rfl)
theorem agg99 : agg Try.prog 99 := agg_of (by kernel_rfl)
theorem u100 : Try.prog.underlying 100 = some (.array 9 99) := by kernel_rfl
theorem ixa100 {a : Addr} {kd : IntKind} {i : Int} (h0 : 0 ≤ i) (h1 : i < 9) : Rd Try.prog S (sIndexAddr 100 (.pointer (some a)) (.int kd i)) k = k (.pointer (some (a.add (i.toNat * 9)))) := (rd_indexArr u100 sz99 h0 h1)
theorem sz100 : szOf Try.prog 100 81 := szOf_of (by kernel_rfl)
theorem agg100 : agg Try.prog 100 := agg_of (by kernel_rfl)
theorem u101 : Try.prog.underlying 101 = some (.array 6 100) := by kernel_rfl
theorem ixa101 {a : Addr} {kd : IntKind} {i : Int} (h0 : 0 ≤ i) (h1 : i < 6) : Rd Try.prog S (sIndexAddr 101 (.pointer (some a)) (.int kd i)) k = k (.pointer (some (a.add (i.toNat * 81)))) := (rd_indexArr u101 sz100 h0 h1)
theorem sz101 : szOf Try.prog 101 486 := szOf_of (by kernel_rfl)
theorem agg101 : agg Try.prog 101 := agg_of (by kernel_rfl)
theorem sz102 : szOf Try.prog 102 487 := szOf_of (by kernel_rfl)
theorem agg102 : agg Try.prog 102 := agg_of (by kernel_rfl)
@[go_sem] theorem fa103_0 {a : Addr} : Rd Try.prog S (sFieldAddr 103 (.pointer (some a)) 0) k = k (.pointer (some (a.add 0))) := rd_fieldAddr (fld_of (by kernel_rfl))
@[go_sem] theorem fa103_1 {a : Addr} : Rd Try.prog S (sFieldAddr 103 (.pointer (some a)) 1) k = k (.pointer (some (a.add 1))) := rd_fieldAddr (fld_of (by kernel_rfl))
theorem sz103 : szOf Try.prog 103 487 := szOf_of (by kernel_rfl)
theorem agg103 : agg Try.prog 103 := agg_of (by kernel_rfl)
theorem sz104 : szOf Try.prog 104 1 := szOf_of (by kernel_rfl)
theorem one104 : one Try.prog 104 := one_of (by kernel_rfl)
theorem ld104 {w : World} {a : Addr} {v : Value} (h : w.cell? a = some v) : Rd Try.prog (WS.at w) (sLoad 104 (.pointer (some a))) k = k v := rd_load1 one104 (fun _ hw => by rw [hw]; exact h)
theorem ldS104 {a : Addr} {v : Value} (h : ∀ w, S.S w → w.cell? a = some v) : Rd Try.prog S (sLoad 104 (.pointer (some a))) k = k v := rd_load1 one104 h
theorem ldB104 {w : World} {b off e : Nat} {cs : List Value} {v : Value} (hb : Box w b cs e) (h : cs[off]? = some v) : Rd Try.prog (WS.at w) (sLoad 104 (.pointer (some ⟨b, off, none⟩))) k = k v := ld104 ((hb.cell off).trans h)
theorem sz105 : szOf Try.prog 105 1 := szOf_of (by kernel_rfl)
theorem one105 : one Try.prog 105 := one_of (by kernel_rfl)
theorem ld105 {w : World} {a : Addr} {v : Value} (h : w.cell? a = some v) : Rd Try.prog (WS.at w) (sLoad 105 (.pointer (some a))) k = k v := rd_load1 one105 (fun _ hw => by rw [hw]; exact h)
theorem ldS105 {a : Addr} {v : Value} (h : ∀ w, S.S w → w.cell? a = some v) : Rd Try.prog S (sLoad 105 (.pointer (some a))) k = k v := rd_load1 one105 h
theorem ldB105 {w : World} {b off e : Nat} {cs : List Value} {v : Value} (hb : Box w b cs e) (h : cs[off]? = some v) : Rd Try.prog (WS.at w) (sLoad 105 (.pointer (some ⟨b, off, none⟩))) k = k v := ld105 ((hb.cell off).trans h)
theorem sz106 : szOf Try.prog 106 1 := szOf_of (by kernel_rfl)
theorem one106 : one Try.prog 106 := one_of (by kernel_rfl)
theorem ld106 {w : World} {a : Addr} {v : Value} (h : w.cell? a = some v) : Rd Try.prog (WS.at w) (sLoad 106 (.pointer (some a))) k = k v := rd_load1 one106 (fun _ hw => by rw [hw]; exact h)
theorem ldS106 {a : Addr} {v : Value} (h : ∀ w, S.S w → w.cell? a = some v) : Rd Try.prog S (sLoad 106 (.pointer (some a))) k = k v := rd_load1 one106 h
theorem ldB106 {w : World} {b off e : Nat} {cs : List Value} {v : Value} (hb : Box w b cs e) (h : cs[off]? = some v) : Rd Try.prog (WS.at w) (sLoad 106 (.pointer (some ⟨b, off, none⟩))) k = k v := ld106 ((hb.cell off).trans h)
theorem u107 : Try.prog.underlying 107 = some (.array 11 4) := by kernel_rfl
theorem ixa107 {a : Addr} {kd : IntKind} {i : Int} (h0 : 0 ≤ i) (h1 : i < 11) : Rd Try.prog S (sIndexAddr 107 (.pointer (some a)) (.int kd i)) k = k (.pointer (some (a.add i.toNat))) := by rw [rd_indexArr u107 sz4 h0 h1, Nat.mul_one]
theorem sz107 : szOf Try.prog 107 11 := szOf_of (by kernel_rfl)
theorem agg107 : agg Try.prog 107 := agg_of (by kernel_rfl)
theorem u108 : Try.prog.underlying 108 = some (.array 11 107) := by kernel_rfl
theorem ixa108 {a : Addr} {kd : IntKind} {i : Int} (h0 : 0 ≤ i) (h1 : i < 11) : Rd Try.prog S (sIndexAddr 108 (.pointer (some a)) (.int kd i)) k = k (.pointer (some (a.add (i.toNat * 11)))) := (rd_indexArr u108 sz107 h0 h1)
theorem sz108 : szOf Try.prog 108 121 := szOf_of (by kernel_rfl)
theorem agg108 : agg Try.prog 108 := agg_of (by kernel_rfl)
theorem u109 : Try.prog.underlying 109 = some (.array 6 108) := by kernel_rfl
theorem ixa109 {a : Addr} {kd : IntKind} {i : Int} (h0 : 0 ≤ i) (h1 : i < 6) : Rd Try.prog S (sIndexAddr 109 (.pointer (some a)) (.int kd i)) k = k (.pointer (some (a.add (i.toNat * 121)))) := (rd_indexArr u109 sz108 h0 h1)
theorem sz109 : szOf Try.prog 109 726 := szOf_of (by kernel_rfl)
theorem agg109 : agg Try.prog 109 := agg_of (by kernel_rfl)
theorem sz110 : szOf Try.prog 110 727 := szOf_of (by kernel_rfl)
theorem agg110 : agg Try.prog 110 := agg_of (by kernel_rfl)
@[go_sem] theorem fa111_0 {a : Addr} : Rd Try.prog S (sFieldAddr 111 (.pointer (some a)) 0) k = k (.pointer (some (a.add 0))) := rd_fieldAddr (fld_of (by kernel_rfl))
@[go_sem] theorem fa111_1 {a : Addr} : Rd Try.prog S (sFieldAddr 111 (.pointer (some a)) 1) k = k (.pointer (some (a.add 1))) := rd_fieldAddr (fld_of (by kernel_rfl))
theorem sz111 : szOf Try.prog 111 727 := szOf_of (by kernel_rfl)
theorem agg111 : agg Try.prog 111 := agg_of (by kernel_rfl)
theorem sz112 : szOf Try.prog 112 1 := szOf_of (by kernel_rfl)
theorem one112 : one Try.prog 112 := one_of (by kernel_rfl)
theorem ld112 {w : World} {a : Addr} {v : Value} (h : w.cell? a = some v) : Rd Try.prog (WS.at w) (sLoad 112 (.pointer (some a))) k = k v := rd_load1 one112 (fun _ hw => by rw [hw]; exact h)
theorem ldS112 {a : Addr} {v : Value} (h : ∀ w, S.S w → w.cell? a = some v) : Rd Try.prog S (sLoad 112 (.pointer (some a))) k = k v := rd_load1 one112 h
theorem ldB112 {w : World} {b off e : Nat} {cs : List Value} {v : Value} (hb : Box w b cs e) (h : cs[off]? = some v) : Rd Try.prog (WS.at w) (sLoad 112 (.pointer (some ⟨b, off, none⟩))) k = k v := ld112 ((hb.cell off).trans h)
theorem sz113 : szOf Try.prog 113 1 := szOf_of (by kernel_rfl)
theorem one113 : one Try.prog 113 := one_of (by kernel_rfl)
theorem ld113 {w : World} {a : Addr} {v : Value} (h : w.cell? a = some v) : Rd Try.prog (WS.at w) (sLoad 113 (.pointer (some a))) k = k v := rd_load1 one113 (fun _ hw => by rw [hw]; exact h)
theorem ldS113 {a : Addr} {v : Value} (h : ∀ w, S.S w → w.cell? a = some v) : Rd Try.prog S (sLoad 113 (.pointer (some a))) k = k v := rd_load1 one113 h
theorem ldB113 {w : World} {b off e : Nat} {cs : List Value} {v : Value} (hb : Box w b cs e) (h : cs[off]? = some v) : Rd Try.prog (WS.at w) (sLoad 113 (.pointer (some ⟨b, off, none⟩))) k = k v := ld113 ((hb.cell off).trans h)
theorem sz114 : szOf Try.prog 114 1 := szOf_of (by kernel_rfl)
theorem one114 : one Try.prog 114 := one_of (by kernel_rfl)
theorem ld114 {w : World} {a : Addr} {v : Value} (h : w.cell? a = some v) : Rd Try.prog (WS.at w) (sLoad 114 (.pointer (some a))) k = k v := rd_load1 one114 (fun _ hw => by rw [hw]; exact h)
theorem ldS114 {a : Addr} {v : Value} (h : ∀ w, S.S w → w.cell? a = some v) : Rd Try.prog S (sLoad 114 (.pointer (some a))) k = k v := rd_load1 one114 h
theorem ldB114 {w : World} {b off e : Nat} {cs : List Value} {v : Value} (hb : Box w b cs e) (h : cs[off]? = some v) : Rd Try.prog (WS.at w) (sLoad 114 (.pointer (some ⟨b, off, none⟩))) k = k v := ld114 ((hb.cell off).trans h)
theorem sz115 : szOf Try.prog 115 1 := szOf_of (by kernel_rfl)
theorem one115 : one Try.prog 115 := one_of (by kernel_rfl)
theorem ld115 {w : World} {a : Addr} {v : Value} (h : w.cell? a = some v) : Rd Try.prog (WS.at w) (sLoad 115 (.pointer (some a))) k = k v := rd_load1 one115 (fun _ hw => by rw [hw]; exact h)
theorem ldS115 {a : Addr} {v : Value} (h : ∀ w, S.S w → w.cell? a = some v) : Rd Try.prog S (sLoad 115 (.pointer (some a))) k = k v := rd_load1 one115 h
theorem ldB115 {w : World} {b off e : Nat} {cs : List Value} {v : Value} (hb : Box w b cs e) (h : cs[off]? = some v) : Rd Try.prog (WS.at w) (sLoad 115 (.pointer (some ⟨b, off, none⟩))) k = k v := ld115 ((hb.cell off).trans h)
theorem sz116 : szOf Try.prog 116 1 := szOf_of (by kernel_rfl)
theorem one116 : one Try.prog 116 := one_of (by kernel_rfl)
theorem ld116 {w : World} {a : Addr} {v : Value} (h : w.cell? a = some v) : Rd Try.prog (WS.at w) (sLoad 116 (.pointer (some a))) k = k v := rd_load1 one116 (fun _ hw => by rw [hw]; exact h)
theorem ldS116 {a : Addr} {v : Value} (h : ∀ w, S.S w → w.cell? a = some v) : Rd Try.prog S (sLoad 116 (.pointer (some a))) k = k v := rd_load1 one116 h
theorem ldB116 {w : World} {b off e : Nat} {cs : List Value} {v : Value} (hb : Box w b cs e) (h : cs[off]? = some v) : Rd Try.prog (WS.at w) (sLoad 116 (.pointer (some ⟨b, off, none⟩))) k = k v := ld116 ((hb.cell off).trans h)
theorem sz117 : szOf Try.prog 117 1 := szOf_of (by kernel_rfl)
theorem one117 : one Try.prog 117 := one_of (by kernel_rfl)
theorem ld117 {w : World} {a : Addr} {v : Value} (h : w.cell? a = some v) : Rd Try.prog (WS.at w) (sLoad 117 (.pointer (some a))) k = k v := rd_load1 one117 (fun _ hw => by rw [hw]; exact h)
theorem ldS117 {a : Addr} {v : Value} (h : ∀ w, S.S w → w.cell? a = some v) : Rd Try.prog S (sLoad 117 (.pointer (some a))) k = k v := rd_load1 one117 h
theorem ldB117 {w : World} {b off e : Nat} {cs : List Value} {v : Value} (hb : Box w b cs e) (h : cs[off]? = some v) : Rd Try.prog (WS.at w) (sLoad 117 (.pointer (some ⟨b, off, none⟩))) k = k v := ld117 ((hb.cell off).trans h)
theorem sz118 : szOf Try.prog 118 1 := szOf_of (by kernel_rfl)
theorem one118 : one Try.prog 118 := one_of (by kernel_rfl)
theorem ld118 {w : World} {a : Addr} {v : Value} (h : w.cell? a = some v) : Rd Try.prog (WS.at w) (sLoad 118 (.pointer (some a))) k = k v := rd_load1 one118 (fun _ hw => by rw [hw]; exact h)
theorem ldS118 {a : Addr} {v : Value} (h : ∀ w, S.S w → w.cell? a = some v) : Rd Try.prog S (sLoad 118 (.pointer (some a))) k = k v := rd_load1 one118 h
theorem ldB118 {w : World} {b off e : Nat} {cs : List Value} {v : Value} (hb : Box w b cs e) (h : cs[off]? = some v) : Rd Try.prog (WS.at w) (sLoad 118 (.pointer (some ⟨b, off, none⟩))) k = k v := ld118 ((hb.cell off).trans h)
theorem sz119 : szOf Try.prog 119 1 := szOf_of (by kernel_rfl)
theorem one119 : one Try.prog 119 := one_of (by kernel_rfl)
theorem ld119 {w : World} {a : Addr} {v : Value} (h : w.cell? a = some v) : Rd Try.prog (WS.at w) (sLoad 119 (.pointer (some a))) k = k v := rd_load1 one119 (fun _ hw => by rw [hw]; exact h)
theorem ldS119 {a : Addr} {v : Value} (h : ∀ w, S.S w → w.cell? a = some v) : Rd Try.prog S (sLoad 119 (.pointer (some a))) k = k v := rd_load1 one119 h
theorem ldB119 {w : World} {b off e : Nat} {cs : List Value} {v : Value} (hb : Box w b cs e) (h : cs[off]? = some v) : Rd Try.prog (WS.at w) (sLoad 119 (.pointer (some ⟨b, off, none⟩))) k = k v := ld119 ((hb.cell off).trans h)
theorem u120 : Try.prog.underlying 120 = some (.array 11 3) := by kernel_rfl
theorem ixa120 {a : Addr} {kd : IntKind} {i : Int} (h0 : 0 ≤ i) (h1 : i < 11) : Rd Try.prog S (sIndexAddr 120 (.pointer (some a)) (.int kd i)) k = k (.pointer (some (a.add i.toNat))) := by rw [rd_indexArr u120 sz3 h0 h1, Nat.mul_one]
theorem sz120 : szOf Try.prog 120 11 := szOf_of (by kernel_rfl)
theorem agg120 : agg Try.prog 120 := agg_of (by kernel_rfl)
theorem u121 : Try.prog.underlying 121 = some (.array 11 120) := by kernel_rfl
theorem ixa121 {a : Addr} {kd : IntKind} {i : Int} (h0 : 0 ≤ i) (h1 : i < 11) : Rd Try.prog S (sIndexAddr 121 (.pointer (some a)) (.int kd i)) k = k (.pointer (some (a.add (i.toNat * 11)))) := (rd_indexArr u121 sz120 h0 h1)
theorem sz121 : szOf Try.prog 121 121 := szOf_of (by kernel_rfl)
theorem agg121 : agg Try.prog 121 := agg_of (by kernel_rfl)
theorem u122 : Try.prog.underlying 122 = some (.array 6 121) := by kernel_rfl
theorem ixa122 {a : Addr} {kd : IntKind} {i : Int} (h0 : 0 ≤ i) (h1 : i < 6) : Rd Try.prog S (sIndexAddr 122 (.pointer (some a)) (.int kd i)) k = k (.pointer (some (a.add (i.toNat * 121)))) := (rd_indexArr u122 sz121 h0 h1)
theorem sz122 : szOf Try.prog 122 726 := szOf_of (by kernel_rfl)
theorem agg122 : agg Try.prog 122 := agg_of (by kernel_rfl)
theorem sz123 : szOf Try.prog 123 1 := szOf_of (by kernel_rfl)
theorem one123 : one Try.prog 123 := one_of (by kernel_rfl)
theorem ld123 {w : World} {a : Addr} {v : Value} (h : w.cell? a = some v) : Rd Try.prog (WS.at w) (sLoad 123 (.pointer (some a))) k = k v := rd_load1 one123 (fun _ hw => by rw [hw]; exact h)
theorem ldS123 {a : Addr} {v : Value} (h : ∀ w, S.S w → w.cell? a = some v) : Rd Try.prog S (sLoad 123 (.pointer (some a))) k = k v := rd_load1 one123 h
theorem ldB123 {w : World} {b off e : Nat} {cs : List Value} {v : Value} (hb : Box w b cs e) (h : cs[off]? = some v) : Rd Try.prog (WS.at w) (sLoad 123 (.pointer (some ⟨b, off, none⟩))) k = k v := ld123 ((hb.cell off).trans h)
theorem sz124 : szOf Try.prog 124 732 := szOf_of (by kernel_rfl)
theorem agg124 : agg Try.prog 124 := agg_of (by kernel_rfl)
@[go_sem] theorem fa125_0 {a : Addr} : Rd Try.prog S (sFieldAddr 125 (.pointer (some a)) 0) k = k (.pointer (some (a.add 0))) := rd_fieldAddr (fld_of (by kernel_rfl))
@[go_sem] theorem fa125_1 {a : Addr} : Rd Try.prog S (sFieldAddr 125 (.pointer (some a)) 1) k = k (.pointer (some (a.add 3))) := rd_fieldAddr (fld_of (by kernel_rfl))
@[go_sem] theorem fa125_2 {a : Addr} : Rd Try.prog S (sFieldAddr 125 (.pointer (some a)) 2) k = k (.pointer (some (a.add 4))) := rd_fieldAddr (fld_of (by kernel_rfl))
@[go_sem] theorem fa125_3 {a : Addr} : Rd Try.prog S (sFieldAddr 125 (.pointer (some a)) 3) k = k (.pointer (some (a.add 5))) := rd_fieldAddr (fld_of (by kernel_rfl))
@[go_sem] theorem fa125_4 {a : Addr} : Rd Try.prog S (sFieldAddr 125 (.pointer (some a)) 4) k = k (.pointer (some (a.add 731))) := rd_fieldAddr (fld_of (by kernel_rfl))
theorem sz125 : szOf Try.prog 125 732 := szOf_of (by kernel_rfl)
theorem agg125 : agg Try.prog 125 := agg_of (by kernel_rfl)
theorem u126 : Try.prog.underlying 126 = some (.slice 48) := by kernel_rfl
@[go_sem] theorem len126 {cs : List Bool} {u : TypeId} {X : Option Addr} {n c : Nat} : Rd Try.prog S (sBuiltin .len #[126] u cs [.slice X n c]) k = k (.int .i64 n) := len_slice u126
theorem ix126 {X : Option Addr} {n c : Nat} {kd : IntKind} {i : Int} (hA : 0 < n → X = some (ad X)) (h0 : 0 ≤ i) (h1 : i < n) : Rd Try.prog S (sIndexAddr 126 (.slice X n c) (.int kd i)) k = k (.pointer (some ((ad X).add i.toNat))) := by rw [rd_indexAddr u126 sz48 hA h0 h1, Nat.mul_one]
theorem ixn126 {X : Option Addr} {n c : Nat} {kd : IntKind} {i : Nat} (hA : 0 < n → X = some (ad X)) (h1 : i < n) : Rd Try.prog S (sIndexAddr 126 (.slice X n c) (.int kd i)) k = k (.pointer (some ((ad X).add i))) := ix126 hA (Int.natCast_nonneg i) (Int.ofNat_lt.2 h1)
theorem ix126_0 {X : Option Addr} {n c : Nat} {kd : IntKind} (hA : 0 < n → X = some (ad X)) (h1 : 0 < n) : Rd Try.prog S (sIndexAddr 126 (.slice X n c) (.int kd 0)) k = k (.pointer (some ((ad X).add 0))) := ixn126 (i := 0) hA h1
theorem ix126_1 {X : Option Addr} {n c : Nat} {kd : IntKind} (hA : 0 < n → X = some (ad X)) (h1 : 1 < n) : Rd Try.prog S (sIndexAddr 126 (.slice X n c) (.int kd 1)) k = k (.pointer (some ((ad X).add 1))) := ixn126 (i := 1) hA h1
theorem ix126_2 {X : Option Addr} {n c : Nat} {kd : IntKind} (hA : 0 < n → X = some (ad X)) (h1 : 2 < n) : Rd Try.prog S (sIndexAddr 126 (.slice X n c) (.int kd 2)) k = k (.pointer (some ((ad X).add 2))) := ixn126 (i := 2) hA h1
theorem ix126_3 {X : Option Addr} {n c : Nat} {kd : IntKind} (hA : 0 < n → X = some (ad X)) (h1 : 3 < n) : Rd Try.prog S (sIndexAddr 126 (.slice X n c) (.int kd 3)) k = k (.pointer (some ((ad X).add 3))) := ixn126 (i := 3) hA h1
theorem ix126_4 {X : Option Addr} {n c : Nat} {kd : IntKind} (hA : 0 < n → X = some (ad X)) (h1 : 4 < n) : Rd Try.prog S (sIndexAddr 126 (.slice X n c) (.int kd 4)) k = k (.pointer (some ((ad X).add 4))) := ixn126 (i := 4) hA h1
theorem ix126_5 {X : Option Addr} {n c : Nat} {kd : IntKind} (hA : 0 < n → X = some (ad X)) (h1 : 5 < n) : Rd Try.prog S (sIndexAddr 126 (.slice X n c) (.int kd 5)) k = k (.pointer (some ((ad X).add 5))) := ixn126 (i := 5) hA h1
theorem inf48 : ∃ i, Try.prog.info? 48 = some i ∧ i.zero = some (.slice none 0 0) ∧ i.size = 1 ∧ i.bytes = 24 := inf_of (by kernel_rfl)
theorem ap126 {w : World} {k : Value → World → Prop} {u : TypeId} {cs : List Bool} {B n c m d : Nat} {X Y : Option Addr} {cells news : List Value} (hO : Row w B 48 1 X n c cells) (hS : Src w Y news) (hl : news.length = m * 1) (h1 : ∀ v ∈ news, v.oneCell' = true) (hm : (n + m) * 24 ≤ 140737488355328) (hB : B ≤ w.heap.size) (h : ∀ X' c' w', Row w' B 48 1 X' (n + m) c' (cells ++ news) → w.grownBy w' (blk X) → k (.slice X' (n + m) c') w') : Do Try.prog (sBuiltin .append #[126, 126] u cs [.slice X n c, .slice Y m d]) k w := do_append_of u126 inf48 rfl (by decide) hO hS hl h1 hm (by omega) hB h
theorem mk126 {w : World} {k : Value → World → Prop} {kl kc : IntKind} {n : Nat} (hm : n * 24 ≤ 281474976710656) (h : ∀ b w', w.heap.size ≤ b → b < w'.heap.size → Gr w w' → (∀ B, B ≤ w.heap.size → Row w' B 48 1 (some ⟨b, 0, none⟩) n n (madeCells (Value.cells (.slice none 0 0)) (n * 1)).toList) → k (.slice (some ⟨b, 0, none⟩) n n) w') : Do Try.prog (sMakeSlice 126 (.int kl n) (.int kc n)) k w := do_make_of u126 inf48 (by omega) (by omega) h
theorem bs126 {w : World} {k : Value → World → Prop} {n : Nat} {ps : List (Nat × Value)} (cells : List Value) (hn : n ≤ 65536) (hf : Instr.fill (fun j => some (j * 1, 1)) (madeCells (if n * 1 = 0 then #[] else Value.cells (.slice none 0 0)) (n * 1)) ps = some cells.toArray) (hl : cells.length = n * 1) (h : ∀ b w', w.heap.size ≤ b → b < w'.heap.size → Gr w w' → Box w' b cells 48 → (∀ B, B ≤ w.heap.size → Row w' B 48 1 (some ⟨b, 0, none⟩) n n cells) → k (.slice (some ⟨b, 0, none⟩) n n) w') : Do Try.prog (sBuildSlice 126 n ps) k w := do_build_of u126 inf48 (by omega) (by omega) hf hl h
theorem sl126 {X : Option Addr} {n c : Nat} {kd kd' : IntKind} {l h : Int} (h0 : 0 ≤ l) (h1 : l ≤ h) (h2 : h ≤ c) : Rd Try.prog S (sSlice 126 (.slice X n c) (some (.int kd l)) (some (.int kd' h)) none) k = k (.slice (sub X l.toNat c 1) (h.toNat - l.toNat) (c - l.toNat)) := rd_slice_lh u126 sz48 h0 h1 h2
theorem slh126 {X : Option Addr} {n c : Nat} {kd' : IntKind} {h : Int} (h1 : 0 ≤ h) (h2 : h ≤ c) : Rd Try.prog S (sSlice 126 (.slice X n c) none (some (.int kd' h)) none) k = k (.slice (sub X 0 c 1) h.toNat c) := rd_slice_h u126 sz48 h1 h2
theorem sll126 {X : Option Addr} {n c : Nat} {kd : IntKind} {l : Int} (h0 : 0 ≤ l) (h1 : l ≤ n) : Rd Try.prog S (sSlice 126 (.slice X n c) (some (.int kd l)) none none) k = k (.slice (sub X l.toNat c 1) (n - l.toNat) (c - l.toNat)) := rd_slice_l u126 sz48 h0 h1
theorem sz126 : szOf Try.prog 126 1 := szOf_of (by kernel_rfl)
theorem one126 : one Try.prog 126 := one_of (by kernel_rfl)
theorem ld126 {w : World} {a : Addr} {v : Value} (h : w.cell? a = some v) : Rd Try.prog (WS.at w) (sLoad 126 (.pointer (some a))) k = k v := rd_load1 one126 (fun _ hw => by rw [hw]; exact h)
theorem ldS126 {a : Addr} {v : Value} (h : ∀ w, S.S w → w.cell? a = some v) : Rd Try.prog S (sLoad 126 (.pointer (some a))) k = k v := rd_load1 one126 h
theorem ldB126 {w : World} {b off e : Nat} {cs : List Value} {v : Value} (hb : Box w b cs e) (h : cs[off]? = some v) : Rd Try.prog (WS.at w) (sLoad 126 (.pointer (some ⟨b, off, none⟩))) k = k v := ld126 ((hb.cell off).trans h)
theorem sz127 : szOf Try.prog 127 1 := szOf_of (by kernel_rfl)
theorem one127 : one Try.prog 127 := one_of (by kernel_rfl)
theorem ld127 {w : World} {a : Addr} {v : Value} (h : w.cell? a = some v) : Rd Try.prog (WS.at w) (sLoad 127 (.pointer (some a))) k = k v := rd_load1 one127 (fun _ hw => by rw [hw]; exact h)
theorem ldS127 {a : Addr} {v : Value} (h : ∀ w, S.S w → w.cell? a = some v) : Rd Try.prog S (sLoad 127 (.pointer (some a))) k = k v := rd_load1 one127 h
theorem ldB127 {w : World} {b off e : Nat} {cs : List Value} {v : Value} (hb : Box w b cs e) (h : cs[off]? = some v) : Rd Try.prog (WS.at w) (sLoad 127 (.pointer (some ⟨b, off, none⟩))) k = k v := ld127 ((hb.cell off).trans h)
theorem sz128 : szOf Try.prog 128 1 := szOf_of (by kernel_rfl)
theorem one128 : one Try.prog 128 := one_of (by kernel_rfl)
theorem ld128 {w : World} {a : Addr} {v : Value} (h : w.cell? a = some v) : Rd Try.prog (WS.at w) (sLoad 128 (.pointer (some a))) k = k v := rd_load1 one128 (fun _ hw => by rw [hw]; exact h)
theorem ldS128 {a : Addr} {v : Value} (h : ∀ w, S.S w → w.cell? a = some v) : Rd Try.prog S (sLoad 128 (.pointer (some a))) k = k v := rd_load1 one128 h
theorem ldB128 {w : World} {b off e : Nat} {cs : List Value} {v : Value} (hb : Box w b cs e) (h : cs[off]? = some v) : Rd Try.prog (WS.at w) (sLoad 128 (.pointer (some ⟨b, off, none⟩))) k = k v := ld128 ((hb.cell off).trans h)
theorem sz129 : szOf Try.prog 129 1 := szOf_of (by kernel_rfl)
theorem one129 : one Try.prog 129 := one_of (by kernel_rfl)
theorem ld129 {w : World} {a : Addr} {v : Value} (h : w.cell? a = some v) : Rd Try.prog (WS.at w) (sLoad 129 (.pointer (some a))) k = k v := rd_load1 one129 (fun _ hw => by rw [hw]; exact h)
theorem ldS129 {a : Addr} {v : Value} (h : ∀ w, S.S w → w.cell? a = some v) : Rd Try.prog S (sLoad 129 (.pointer (some a))) k = k v := rd_load1 one129 h
theorem ldB129 {w : World} {b off e : Nat} {cs : List Value} {v : Value} (hb : Box w b cs e) (h : cs[off]? = some v) : Rd Try.prog (WS.at w) (sLoad 129 (.pointer (some ⟨b, off, none⟩))) k = k v := ld129 ((hb.cell off).trans h)
theorem sz130 : szOf Try.prog 130 5 := szOf_of (by kernel_rfl)
theorem agg130 : agg Try.prog 130 := agg_of (by kernel_rfl)
@[go_sem] theorem fa131_0 {a : Addr} : Rd Try.prog S (sFieldAddr 131 (.pointer (some a)) 0) k = k (.pointer (some (a.add 0))) := rd_fieldAddr (fld_of (by kernel_rfl))
@[go_sem] theorem fa131_1 {a : Addr} : Rd Try.prog S (sFieldAddr 131 (.pointer (some a)) 1) k = k (.pointer (some (a.add 3))) := rd_fieldAddr (fld_of (by kernel_rfl))
@[go_sem] theorem fa131_2 {a : Addr} : Rd Try.prog S (sFieldAddr 131 (.pointer (some a)) 2) k = k (.pointer (some (a.add 4))) := rd_fieldAddr (fld_of (by kernel_rfl))
theorem sz131 : szOf Try.prog 131 5 := szOf_of (by kernel_rfl)
theorem agg131 : agg Try.prog 131 := agg_of (by kernel_rfl)
theorem sz132 : szOf Try.prog 132 1 := szOf_of (by kernel_rfl)
theorem one132 : one Try.prog 132 := one_of (by kernel_rfl)
theorem ld132 {w : World} {a : Addr} {v : Value} (h : w.cell? a = some v) : Rd Try.prog (WS.at w) (sLoad 132 (.pointer (some a))) k = k v := rd_load1 one132 (fun _ hw => by rw [hw]; exact h)
theorem ldS132 {a : Addr} {v : Value} (h : ∀ w, S.S w → w.cell? a = some v) : Rd Try.prog S (sLoad 132 (.pointer (some a))) k = k v := rd_load1 one132 h
theorem ldB132 {w : World} {b off e : Nat} {cs : List Value} {v : Value} (hb : Box w b cs e) (h : cs[off]? = some v) : Rd Try.prog (WS.at w) (sLoad 132 (.pointer (some ⟨b, off, none⟩))) k = k v := ld132 ((hb.cell off).trans h)
theorem sz133 : szOf Try.prog 133 1 := szOf_of (by kernel_rfl)
theorem one133 : one Try.prog 133 := one_of (by kernel_rfl)
theorem ld133 {w : World} {a : Addr} {v : Value} (h : w.cell? a = some v) : Rd Try.prog (WS.at w) (sLoad 133 (.pointer (some a))) k = k v := rd_load1 one133 (fun _ hw => by rw [hw]; exact h)
theorem ldS133 {a : Addr} {v : Value} (h : ∀ w, S.S w → w.cell? a = some v) : Rd Try.prog S (sLoad 133 (.pointer (some a))) k = k v := rd_load1 one133 h
theorem ldB133 {w : World} {b off e : Nat} {cs : List Value} {v : Value} (hb : Box w b cs e) (h : cs[off]? = some v) : Rd Try.prog (WS.at w) (sLoad 133 (.pointer (some ⟨b, off, none⟩))) k = k v := ld133 ((hb.cell off).trans h)
theorem sz134 : szOf Try.prog 134 1 := szOf_of (by kernel_rfl)
theorem one134 : one Try.prog 134 := one_of (by kernel_rfl)
theorem ld134 {w : World} {a : Addr} {v : Value} (h : w.cell? a = some v) : Rd Try.prog (WS.at w) (sLoad 134 (.pointer (some a))) k = k v := rd_load1 one134 (fun _ hw => by rw [hw]; exact h)
theorem ldS134 {a : Addr} {v : Value} (h : ∀ w, S.S w → w.cell? a = some v) : Rd Try.prog S (sLoad 134 (.pointer (some a))) k = k v := rd_load1 one134 h
theorem ldB134 {w : World} {b off e : Nat} {cs : List Value} {v : Value} (hb : Box w b cs e) (h : cs[off]? = some v) : Rd Try.prog (WS.at w) (sLoad 134 (.pointer (some ⟨b, off, none⟩))) k = k v := ld134 ((hb.cell off).trans h)
theorem sz135 : szOf Try.prog 135 1 := szOf_of (by kernel_rfl)
theorem one135 : one Try.prog 135 := one_of (by kernel_rfl)
theorem ld135 {w : World} {a : Addr} {v : Value} (h : w.cell? a = some v) : Rd Try.prog (WS.at w) (sLoad 135 (.pointer (some a))) k = k v := rd_load1 one135 (fun _ hw => by rw [hw]; exact h)
theorem ldS135 {a : Addr} {v : Value} (h : ∀ w, S.S w → w.cell? a = some v) : Rd Try.prog S (sLoad 135 (.pointer (some a))) k = k v := rd_load1 one135 h
theorem ldB135 {w : World} {b off e : Nat} {cs : List Value} {v : Value} (hb : Box w b cs e) (h : cs[off]? = some v) : Rd Try.prog (WS.at w) (sLoad 135 (.pointer (some ⟨b, off, none⟩))) k = k v := ld135 ((hb.cell off).trans h)
theorem sz136 : szOf Try.prog 136 1 := szOf_of (by kernel_rfl)
theorem one136 : one Try.prog 136 := one_of (by kernel_rfl)
theorem ld136 {w : World} {a : Addr} {v : Value} (h : w.cell? a = some v) : Rd Try.prog (WS.at w) (sLoad 136 (.pointer (some a))) k = k v := rd_load1 one136 (fun _ hw => by rw [hw]; exact h)
theorem ldS136 {a : Addr} {v : Value} (h : ∀ w, S.S w → w.cell? a = some v) : Rd Try.prog S (sLoad 136 (.pointer (some a))) k = k v := rd_load1 one136 h
theorem ldB136 {w : World} {b off e : Nat} {cs : List Value} {v : Value} (hb : Box w b cs e) (h : cs[off]? = some v) : Rd Try.prog (WS.at w) (sLoad 136 (.pointer (some ⟨b, off, none⟩))) k = k v := ld136 ((hb.cell off).trans h)
theorem sz137 : szOf Try.prog 137 1 := szOf_of (by kernel_rfl)
theorem one137 : one Try.prog 137 := one_of (by kernel_rfl)
theorem ld137 {w : World} {a : Addr} {v : Value} (h : w.cell? a = some v) : Rd Try.prog (WS.at w) (sLoad 137 (.pointer (some a))) k = k v := rd_load1 one137 (fun _ hw => by rw [hw]; exact h)
theorem ldS137 {a : Addr} {v : Value} (h : ∀ w, S.S w → w.cell? a = some v) : Rd Try.prog S (sLoad 137 (.pointer (some a))) k = k v := rd_load1 one137 h
theorem ldB137 {w : World} {b off e : Nat} {cs : List Value} {v : Value} (hb : Box w b cs e) (h : cs[off]? = some v) : Rd Try.prog (WS.at w) (sLoad 137 (.pointer (some ⟨b, off, none⟩))) k = k v := ld137 ((hb.cell off).trans h)
theorem sz138 : szOf Try.prog 138 1 := szOf_of (by kernel_rfl)
theorem one138 : one Try.prog 138 := one_of (by kernel_rfl)
theorem ld138 {w : World} {a : Addr} {v : Value} (h : w.cell? a = some v) : Rd Try.prog (WS.at w) (sLoad 138 (.pointer (some a))) k = k v := rd_load1 one138 (fun _ hw => by rw [hw]; exact h)
theorem ldS138 {a : Addr} {v : Value} (h : ∀ w, S.S w → w.cell? a = some v) : Rd Try.prog S (sLoad 138 (.pointer (some a))) k = k v := rd_load1 one138 h
theorem ldB138 {w : World} {b off e : Nat} {cs : List Value} {v : Value} (hb : Box w b cs e) (h : cs[off]? = some v) : Rd Try.prog (WS.at w) (sLoad 138 (.pointer (some ⟨b, off, none⟩))) k = k v := ld138 ((hb.cell off).trans h)
theorem sz139 : szOf Try.prog 139 1 := szOf_of (by kernel_rfl)
theorem one139 : one Try.prog 139 := one_of (by kernel_rfl)
theorem ld139 {w : World} {a : Addr} {v : Value} (h : w.cell? a = some v) : Rd Try.prog (WS.at w) (sLoad 139 (.pointer (some a))) k = k v := rd_load1 one139 (fun _ hw => by rw [hw]; exact h)
theorem ldS139 {a : Addr} {v : Value} (h : ∀ w, S.S w → w.cell? a = some v) : Rd Try.prog S (sLoad 139 (.pointer (some a))) k = k v := rd_load1 one139 h
theorem ldB139 {w : World} {b off e : Nat} {cs : List Value} {v : Value} (hb : Box w b cs e) (h : cs[off]? = some v) : Rd Try.prog (WS.at w) (sLoad 139 (.pointer (some ⟨b, off, none⟩))) k = k v := ld139 ((hb.cell off).trans h)
theorem sz140 : szOf Try.prog 140 1 := szOf_of (by kernel_rfl)
theorem one140 : one Try.prog 140 := one_of (by kernel_rfl)
theorem ld140 {w : World} {a : Addr} {v : Value} (h : w.cell? a = some v) : Rd Try.prog (WS.at w) (sLoad 140 (.pointer (some a))) k = k v := rd_load1 one140 (fun _ hw => by rw [hw]; exact h)
theorem ldS140 {a : Addr} {v : Value} (h : ∀ w, S.S w → w.cell? a = some v) : Rd Try.prog S (sLoad 140 (.pointer (some a))) k = k v := rd_load1 one140 h
theorem ldB140 {w : World} {b off e : Nat} {cs : List Value} {v : Value} (hb : Box w b cs e) (h : cs[off]? = some v) : Rd Try.prog (WS.at w) (sLoad 140 (.pointer (some ⟨b, off, none⟩))) k = k v := ld140 ((hb.cell off).trans h)
theorem sz141 : szOf Try.prog 141 1 := szOf_of (by kernel_rfl)
theorem one141 : one Try.prog 141 := one_of (by kernel_rfl)
theorem ld141 {w : World} {a : Addr} {v : Value} (h : w.cell? a = some v) : Rd Try.prog (WS.at w) (sLoad 141 (.pointer (some a))) k = k v := rd_load1 one141 (fun _ hw => by rw [hw]; exact h)
theorem ldS141 {a : Addr} {v : Value} (h : ∀ w, S.S w → w.cell? a = some v) : Rd Try.prog S (sLoad 141 (.pointer (some a))) k = k v := rd_load1 one141 h
theorem ldB141 {w : World} {b off e : Nat} {cs : List Value} {v : Value} (hb : Box w b cs e) (h : cs[off]? = some v) : Rd Try.prog (WS.at w) (sLoad 141 (.pointer (some ⟨b, off, none⟩))) k = k v := ld141 ((hb.cell off).trans h)
theorem sz142 : szOf Try.prog 142 6 := szOf_of (by kernel_rfl)
theorem agg142 : agg Try.prog 142 := agg_of (by kernel_rfl)
@[go_sem] theorem fa143_0 {a : Addr} : Rd Try.prog S (sFieldAddr 143 (.pointer (some a)) 0) k = k (.pointer (some (a.add 0))) := rd_fieldAddr (fld_of (by kernel_rfl))
@[go_sem] theorem fa143_1 {a : Addr} : Rd Try.prog S (sFieldAddr 143 (.pointer (some a)) 1) k = k (.pointer (some (a.add 3))) := rd_fieldAddr (fld_of (by kernel_rfl))
@[go_sem] theorem fa143_2 {a : Addr} : Rd Try.prog S (sFieldAddr 143 (.pointer (some a)) 2) k = k (.pointer (some (a.add 4))) := rd_fieldAddr (fld_of (by kernel_rfl))
@[go_sem] theorem fa143_3 {a : Addr} : Rd Try.prog S (sFieldAddr 143 (.pointer (some a)) 3) k = k (.pointer (some (a.add 5))) := rd_fieldAddr (fld_of (by kernel_rfl))
theorem sz143 : szOf Try.prog 143 6 := szOf_of (by kernel_rfl)
theorem agg143 : agg Try.prog 143 := agg_of (by kernel_rfl)
theorem sz144 : szOf Try.prog 144 1 := szOf_of (by kernel_rfl)
theorem one144 : one Try.prog 144 := one_of (by kernel_rfl)
theorem ld144 {w : World} {a : Addr} {v : Value} (h : w.cell? a = some v) : Rd Try.prog (WS.at w) (sLoad 144 (.pointer (some a))) k = k v := rd_load1 one144 (fun _ hw => by rw [hw]; exact h)
theorem ldS144 {a : Addr} {v : Value} (h : ∀ w, S.S w → w.cell? a = some v) : Rd Try.prog S (sLoad 144 (.pointer (some a))) k = k v := rd_load1 one144 h
theorem ldB144 {w : World} {b off e : Nat} {cs : List Value} {v : Value} (hb : Box w b cs e) (h : cs[off]? = some v) : Rd Try.prog (WS.at w) (sLoad 144 (.pointer (some ⟨b, off, none⟩))) k = k v := ld144 ((hb.cell off).trans h)
theorem sz145 : szOf Try.prog 145 1 := szOf_of (by kernel_rfl)
theorem one145 : one Try.prog 145 := one_of (by kernel_rfl)
theorem ld145 {w : World} {a : Addr} {v : Value} (h : w.cell? a = some v) : Rd Try.prog (WS.at w) (sLoad 145 (.pointer (some a))) k = k v := rd_load1 one145 (fun _ hw => by rw [hw]; exact h)
theorem ldS145 {a : Addr} {v : Value} (h : ∀ w, S.S w → w.cell? a = some v) : Rd Try.prog S (sLoad 145 (.pointer (some a))) k = k v := rd_load1 one145 h
theorem ldB145 {w : World} {b off e : Nat} {cs : List Value} {v : Value} (hb : Box w b cs e) (h : cs[off]? = some v) : Rd Try.prog (WS.at w) (sLoad 145 (.pointer (some ⟨b, off, none⟩))) k = k v := ld145 ((hb.cell off).trans h)
theorem sz146 : szOf Try.prog 146 1 := szOf_of (by kernel_rfl)
theorem one146 : one Try.prog 146 := one_of (by kernel_rfl)
theorem ld146 {w : World} {a : Addr} {v : Value} (h : w.cell? a = some v) : Rd Try.prog (WS.at w) (sLoad 146 (.pointer (some a))) k = k v := rd_load1 one146 (fun _ hw => by rw [hw]; exact h)
theorem ldS146 {a : Addr} {v : Value} (h : ∀ w, S.S w → w.cell? a = some v) : Rd Try.prog S (sLoad 146 (.pointer (some a))) k = k v := rd_load1 one146 h
theorem ldB146 {w : World} {b off e : Nat} {cs : List Value} {v : Value} (hb : Box w b cs e) (h : cs[off]? = some v) : Rd Try.prog (WS.at w) (sLoad 146 (.pointer (some ⟨b, off, none⟩))) k = k v := ld146 ((hb.cell off).trans h)
theorem sz147 : szOf Try.prog 147 1 := szOf_of (by kernel_rfl)
theorem one147 : one Try.prog 147 := one_of (by kernel_rfl)
theorem ld147 {w : World} {a : Addr} {v : Value} (h : w.cell? a = some v) : Rd Try.prog (WS.at w) (sLoad 147 (.pointer (some a))) k = k v := rd_load1 one147 (fun _ hw => by rw [hw]; exact h)
theorem ldS147 {a : Addr} {v : Value} (h : ∀ w, S.S w → w.cell? a = some v) : Rd Try.prog S (sLoad 147 (.pointer (some a))) k = k v := rd_load1 one147 h
theorem ldB147 {w : World} {b off e : Nat} {cs : List Value} {v : Value} (hb : Box w b cs e) (h : cs[off]? = some v) : Rd Try.prog (WS.at w) (sLoad 147 (.pointer (some ⟨b, off, none⟩))) k = k v := ld147 ((hb.cell off).trans h)
@[go_sem] theorem fa148_0 {a : Addr} : Rd Try.prog S (sFieldAddr 148 (.pointer (some a)) 0) k = k (.pointer (some (a.add 0))) := rd_fieldAddr (fld_of (by kernel_rfl))
@[go_sem] theorem fa148_1 {a : Addr} : Rd Try.prog S (sFieldAddr 148 (.pointer (some a)) 1) k = k (.pointer (some (a.add 1))) := rd_fieldAddr (fld_of (by kernel_rfl))
theorem agg148 : agg Try.prog 148 := agg_of (by kernel_rfl)
theorem sz149 : szOf Try.prog 149 1 := szOf_of (by kernel_rfl)
theorem one149 : one Try.prog 149 := one_of (by kernel_rfl)
theorem ld149 {w : World} {a : Addr} {v : Value} (h : w.cell? a = some v) : Rd Try.prog (WS.at w) (sLoad 149 (.pointer (some a))) k = k v := rd_load1 one149 (fun _ hw => by rw [hw]; exact h)
theorem ldS149 {a : Addr} {v : Value} (h : ∀ w, S.S w → w.cell? a = some v) : Rd Try.prog S (sLoad 149 (.pointer (some a))) k = k v := rd_load1 one149 h
theorem ldB149 {w : World} {b off e : Nat} {cs : List Value} {v : Value} (hb : Box w b cs e) (h : cs[off]? = some v) : Rd Try.prog (WS.at w) (sLoad 149 (.pointer (some ⟨b, off, none⟩))) k = k v := ld149 ((hb.cell off).trans h)
theorem sz150 : szOf Try.prog 150 1 := szOf_of (by kernel_rfl)
theorem one150 : one Try.prog 150 := one_of (by kernel_rfl)
theorem ld150 {w : World} {a : Addr} {v : Value} (h : w.cell? a = some v) : Rd Try.prog (WS.at w) (sLoad 150 (.pointer (some a))) k = k v := rd_load1 one150 (fun _ hw => by rw [hw]; exact h)
theorem ldS150 {a : Addr} {v : Value} (h : ∀ w, S.S w → w.cell? a = some v) : Rd Try.prog S (sLoad 150 (.pointer (some a))) k = k v := rd_load1 one150 h
theorem ldB150 {w : World} {b off e : Nat} {cs : List Value} {v : Value} (hb : Box w b cs e) (h : cs[off]? = some v) : Rd Try.prog (WS.at w) (sLoad 150 (.pointer (some ⟨b, off, none⟩))) k = k v := ld150 ((hb.cell off).trans h)
theorem sz151 : szOf Try.prog 151 1 := szOf_of (by kernel_rfl)
theorem one151 : one Try.prog 151 := one_of (by kernel_rfl)
theorem ld151 {w : World} {a : Addr} {v : Value} (h : w.cell? a = some v) : Rd Try.prog (WS.at w) (sLoad 151 (.pointer (some a))) k = k v := rd_load1 one151 (fun _ hw => by rw [hw]; exact h)
theorem ldS151 {a : Addr} {v : Value} (h : ∀ w, S.S w → w.cell? a = some v) : Rd Try.prog S (sLoad 151 (.pointer (some a))) k = k v := rd_load1 one151 h
theorem ldB151 {w : World} {b off e : Nat} {cs : List Value} {v : Value} (hb : Box w b cs e) (h : cs[off]? = some v) : Rd Try.prog (WS.at w) (sLoad 151 (.pointer (some ⟨b, off, none⟩))) k = k v := ld151 ((hb.cell off).trans h)
theorem sz152 : szOf Try.prog 152 1 := szOf_of (by kernel_rfl)
theorem one152 : one Try.prog 152 := one_of (by kernel_rfl)
theorem ld152 {w : World} {a : Addr} {v : Value} (h : w.cell? a = some v) : Rd Try.prog (WS.at w) (sLoad 152 (.pointer (some a))) k = k v := rd_load1 one152 (fun _ hw => by rw [hw]; exact h)
theorem ldS152 {a : Addr} {v : Value} (h : ∀ w, S.S w → w.cell? a = some v) : Rd Try.prog S (sLoad 152 (.pointer (some a))) k = k v := rd_load1 one152 h
theorem ldB152 {w : World} {b off e : Nat} {cs : List Value} {v : Value} (hb : Box w b cs e) (h : cs[off]? = some v) : Rd Try.prog (WS.at w) (sLoad 152 (.pointer (some ⟨b, off, none⟩))) k = k v := ld152 ((hb.cell off).trans h)
theorem sz153 : szOf Try.prog 153 1 := szOf_of (by kernel_rfl)
theorem one153 : one Try.prog 153 := one_of (by kernel_rfl)
theorem ld153 {w : World} {a : Addr} {v : Value} (h : w.cell? a = some v) : Rd Try.prog (WS.at w) (sLoad 153 (.pointer (some a))) k = k v := rd_load1 one153 (fun _ hw => by rw [hw]; exact h)
theorem ldS153 {a : Addr} {v : Value} (h : ∀ w, S.S w → w.cell? a = some v) : Rd Try.prog S (sLoad 153 (.pointer (some a))) k = k v := rd_load1 one153 h
theorem ldB153 {w : World} {b off e : Nat} {cs : List Value} {v : Value} (hb : Box w b cs e) (h : cs[off]? = some v) : Rd Try.prog (WS.at w) (sLoad 153 (.pointer (some ⟨b, off, none⟩))) k = k v := ld153 ((hb.cell off).trans h)
theorem u154 : Try.prog.underlying 154 = some (.slice 37) := by kernel_rfl
@[go_sem] theorem len154 {cs : List Bool} {u : TypeId} {X : Option Addr} {n c : Nat} : Rd Try.prog S (sBuiltin .len #[154] u cs [.slice X n c]) k = k (.int .i64 n) := len_slice u154
theorem ix154 {X : Option Addr} {n c : Nat} {kd : IntKind} {i : Int} (hA : 0 < n → X = some (ad X)) (h0 : 0 ≤ i) (h1 : i < n) : Rd Try.prog S (sIndexAddr 154 (.slice X n c) (.int kd i)) k = k (.pointer (some ((ad X).add (i.toNat * 3)))) := (rd_indexAddr u154 sz37 hA h0 h1)
theorem ixn154 {X : Option Addr} {n c : Nat} {kd : IntKind} {i : Nat} (hA : 0 < n → X = some (ad X)) (h1 : i < n) : Rd Try.prog S (sIndexAddr 154 (.slice X n c) (.int kd i)) k = k (.pointer (some ((ad X).add (i * 3)))) := ix154 hA (Int.natCast_nonneg i) (Int.ofNat_lt.2 h1)
theorem ix154_0 {X : Option Addr} {n c : Nat} {kd : IntKind} (hA : 0 < n → X = some (ad X)) (h1 : 0 < n) : Rd Try.prog S (sIndexAddr 154 (.slice X n c) (.int kd 0)) k = k (.pointer (some ((ad X).add 0))) := ixn154 (i := 0) hA h1
theorem ix154_1 {X : Option Addr} {n c : Nat} {kd : IntKind} (hA : 0 < n → X = some (ad X)) (h1 : 1 < n) : Rd Try.prog S (sIndexAddr 154 (.slice X n c) (.int kd 1)) k = k (.pointer (some ((ad X).add 3))) := ixn154 (i := 1) hA h1
theorem ix154_2 {X : Option Addr} {n c : Nat} {kd : IntKind} (hA : 0 < n → X = some (ad X)) (h1 : 2 < n) : Rd Try.prog S (sIndexAddr 154 (.slice X n c) (.int kd 2)) k = k (.pointer (some ((ad X).add 6))) := ixn154 (i := 2) hA h1
theorem ix154_3 {X : Option Addr} {n c : Nat} {kd : IntKind} (hA : 0 < n → X = some (ad X)) (h1 : 3 < n) : Rd Try.prog S (sIndexAddr 154 (.slice X n c) (.int kd 3)) k = k (.pointer (some ((ad X).add 9))) := ixn154 (i := 3) hA h1
theorem ix154_4 {X : Option Addr} {n c : Nat} {kd : IntKind} (hA : 0 < n → X = some (ad X)) (h1 : 4 < n) : Rd Try.prog S (sIndexAddr 154 (.slice X n c) (.int kd 4)) k = k (.pointer (some ((ad X).add 12))) := ixn154 (i := 4) hA h1
theorem ix154_5 {X : Option Addr} {n c : Nat} {kd : IntKind} (hA : 0 < n → X = some (ad X)) (h1 : 5 < n) : Rd Try.prog S (sIndexAddr 154 (.slice X n c) (.int kd 5)) k = k (.pointer (some ((ad X).add 15))) := ixn154 (i := 5) hA h1
theorem inf37 : ∃ i, Try.prog.info? 37 = some i ∧ i.zero = some (.agg #[.int .i64 0, .int .i64 0, .slice none 0 0]) ∧ i.size = 3 ∧ i.bytes = 40 := inf_of (by kernel_rfl)
theorem ap154 {w : World} {k : Value → World → Prop} {u : TypeId} {cs : List Bool} {B n c m d : Nat} {X Y : Option Addr} {cells news : List Value} (hO : Row w B 37 3 X n c cells) (hS : Src w Y news) (hl : news.length = m * 3) (h1 : ∀ v ∈ news, v.oneCell' = true) (hm : (n + m) * 40 ≤ 140737488355328) (hB : B ≤ w.heap.size) (h : ∀ X' c' w', Row w' B 37 3 X' (n + m) c' (cells ++ news) → w.grownBy w' (blk X) → k (.slice X' (n + m) c') w') : Do Try.prog (sBuiltin .append #[154, 154] u cs [.slice X n c, .slice Y m d]) k w := do_append_of u154 inf37 rfl (by decide) hO hS hl h1 hm (by omega) hB h
theorem mk154 {w : World} {k : Value → World → Prop} {kl kc : IntKind} {n : Nat} (hm : n * 40 ≤ 281474976710656) (h : ∀ b w', w.heap.size ≤ b → b < w'.heap.size → Gr w w' → (∀ B, B ≤ w.heap.size → Row w' B 37 3 (some ⟨b, 0, none⟩) n n (madeCells (Value.cells (.agg #[.int .i64 0, .int .i64 0, .slice none 0 0])) (n * 3)).toList) → k (.slice (some ⟨b, 0, none⟩) n n) w') : Do Try.prog (sMakeSlice 154 (.int kl n) (.int kc n)) k w := do_make_of u154 inf37 (by omega) (by omega) h
theorem bs154 {w : World} {k : Value → World → Prop} {n : Nat} {ps : List (Nat × Value)} (cells : List Value) (hn : n ≤ 65536) (hf : Instr.fill (fun j => some (j * 3, 3)) (madeCells (if n * 3 = 0 then #[] else Value.cells (.agg #[.int .i64 0, .int .i64 0, .slice none 0 0])) (n * 3)) ps = some cells.toArray) (hl : cells.length = n * 3) (h : ∀ b w', w.heap.size ≤ b → b < w'.heap.size → Gr w w' → Box w' b cells 37 → (∀ B, B ≤ w.heap.size → Row w' B 37 3 (some ⟨b, 0, none⟩) n n cells) → k (.slice (some ⟨b, 0, none⟩) n n) w') : Do Try.prog (sBuildSlice 154 n ps) k w := do_build_of u154 inf37 (by omega) (by omega) hf hl h
theorem sl154 {X : Option Addr} {n c : Nat} {kd kd' : IntKind} {l h : Int} (h0 : 0 ≤ l) (h1 : l ≤ h) (h2 : h ≤ c) : Rd Try.prog S (sSlice 154 (.slice X n c) (some (.int kd l)) (some (.int kd' h)) none) k = k (.slice (sub X l.toNat c 3) (h.toNat - l.toNat) (c - l.toNat)) := rd_slice_lh u154 sz37 h0 h1 h2
theorem slh154 {X : Option Addr} {n c : Nat} {kd' : IntKind} {h : Int} (h1 : 0 ≤ h) (h2 : h ≤ c) : Rd Try.prog S (sSlice 154 (.slice X n c) none (some (.int kd' h)) none) k = k (.slice (sub X 0 c 3) h.toNat c) := rd_slice_h u154 sz37 h1 h2
theorem sll154 {X : Option Addr} {n c : Nat} {kd : IntKind} {l : Int} (h0 : 0 ≤ l) (h1 : l ≤ n) : Rd Try.prog S (sSlice 154 (.slice X n c) (some (.int kd l)) none none) k = k (.slice (sub X l.toNat c 3) (n - l.toNat) (c - l.toNat)) := rd_slice_l u154 sz37 h0 h1
theorem sz154 : szOf Try.prog 154 1 := szOf_of (by kernel_rfl)
theorem one154 : one Try.prog 154 := one_of (by kernel_rfl)
theorem ld154 {w : World} {a : Addr} {v : Value} (h : w.cell? a = some v) : Rd Try.prog (WS.at w) (sLoad 154 (.pointer (some a))) k = k v := rd_load1 one154 (fun _ hw => by rw [hw]; exact h)
theorem ldS154 {a : Addr} {v : Value} (h : ∀ w, S.S w → w.cell? a = some v) : Rd Try.prog S (sLoad 154 (.pointer (some a))) k = k v := rd_load1 one154 h
theorem ldB154 {w : World} {b off e : Nat} {cs : List Value} {v : Value} (hb : Box w b cs e) (h : cs[off]? = some v) : Rd Try.prog (WS.at w) (sLoad 154 (.pointer (some ⟨b, off, none⟩))) k = k v := ld154 ((hb.cell off).trans h)
theorem sz155 : szOf Try.prog 155 1 := szOf_of (by kernel_rfl)
theorem one155 : one Try.prog 155 := one_of (by kernel_rfl)
theorem ld155 {w : World} {a : Addr} {v : Value} (h : w.cell? a = some v) : Rd Try.prog (WS.at w) (sLoad 155 (.pointer (some a))) k = k v := rd_load1 one155 (fun _ hw => by rw [hw]; exact h)
theorem ldS155 {a : Addr} {v : Value} (h : ∀ w, S.S w → w.cell? a = some v) : Rd Try.prog S (sLoad 155 (.pointer (some a))) k = k v := rd_load1 one155 h
theorem ldB155 {w : World} {b off e : Nat} {cs : List Value} {v : Value} (hb : Box w b cs e) (h : cs[off]? = some v) : Rd Try.prog (WS.at w) (sLoad 155 (.pointer (some ⟨b, off, none⟩))) k = k v := ld155 ((hb.cell off).trans h)
theorem sz156 : szOf Try.prog 156 1 := szOf_of (by kernel_rfl)
theorem one156 : one Try.prog 156 := one_of (by kernel_rfl)
theorem ld156 {w : World} {a : Addr} {v : Value} (h : w.cell? a = some v) : Rd Try.prog (WS.at w) (sLoad 156 (.pointer (some a))) k = k v := rd_load1 one156 (fun _ hw => by rw [hw]; exact h)
theorem ldS156 {a : Addr} {v : Value} (h : ∀ w, S.S w → w.cell? a = some v) : Rd Try.prog S (sLoad 156 (.pointer (some a))) k = k v := rd_load1 one156 h
theorem ldB156 {w : World} {b off e : Nat} {cs : List Value} {v : Value} (hb : Box w b cs e) (h : cs[off]? = some v) : Rd Try.prog (WS.at w) (sLoad 156 (.pointer (some ⟨b, off, none⟩))) k = k v := ld156 ((hb.cell off).trans h)
theorem sz157 : szOf Try.prog 157 1 := szOf_of (by kernel_rfl)
theorem one157 : one Try.prog 157 := one_of (by kernel_rfl)
theorem ld157 {w : World} {a : Addr} {v : Value} (h : w.cell? a = some v) : Rd Try.prog (WS.at w) (sLoad 157 (.pointer (some a))) k = k v := rd_load1 one157 (fun _ hw => by rw [hw]; exact h)
theorem ldS157 {a : Addr} {v : Value} (h : ∀ w, S.S w → w.cell? a = some v) : Rd Try.prog S (sLoad 157 (.pointer (some a))) k = k v := rd_load1 one157 h
theorem ldB157 {w : World} {b off e : Nat} {cs : List Value} {v : Value} (hb : Box w b cs e) (h : cs[off]? = some v) : Rd Try.prog (WS.at w) (sLoad 157 (.pointer (some ⟨b, off, none⟩))) k = k v := ld157 ((hb.cell off).trans h)
theorem sz158 : szOf Try.prog 158 1 := szOf_of (by kernel_rfl)
theorem one158 : one Try.prog 158 := one_of (by kernel_rfl)
theorem ld158 {w : World} {a : Addr} {v : Value} (h : w.cell? a = some v) : Rd Try.prog (WS.at w) (sLoad 158 (.pointer (some a))) k = k v := rd_load1 one158 (fun _ hw => by rw [hw]; exact h)
theorem ldS158 {a : Addr} {v : Value} (h : ∀ w, S.S w → w.cell? a = some v) : Rd Try.prog S (sLoad 158 (.pointer (some a))) k = k v := rd_load1 one158 h
theorem ldB158 {w : World} {b off e : Nat} {cs : List Value} {v : Value} (hb : Box w b cs e) (h : cs[off]? = some v) : Rd Try.prog (WS.at w) (sLoad 158 (.pointer (some ⟨b, off, none⟩))) k = k v := ld158 ((hb.cell off).trans h)
theorem sz159 : szOf Try.prog 159 1 := szOf_of (by kernel_rfl)
theorem one159 : one Try.prog 159 := one_of (by kernel_rfl)
theorem ld159 {w : World} {a : Addr} {v : Value} (h : w.cell? a = some v) : Rd Try.prog (WS.at w) (sLoad 159 (.pointer (some a))) k = k v := rd_load1 one159 (fun _ hw => by rw [hw]; exact h)
theorem ldS159 {a : Addr} {v : Value} (h : ∀ w, S.S w → w.cell? a = some v) : Rd Try.prog S (sLoad 159 (.pointer (some a))) k = k v := rd_load1 one159 h
theorem ldB159 {w : World} {b off e : Nat} {cs : List Value} {v : Value} (hb : Box w b cs e) (h : cs[off]? = some v) : Rd Try.prog (WS.at w) (sLoad 159 (.pointer (some ⟨b, off, none⟩))) k = k v := ld159 ((hb.cell off).trans h)
theorem sz160 : szOf Try.prog 160 1 := szOf_of (by kernel_rfl)
theorem one160 : one Try.prog 160 := one_of (by kernel_rfl)
theorem ld160 {w : World} {a : Addr} {v : Value} (h : w.cell? a = some v) : Rd Try.prog (WS.at w) (sLoad 160 (.pointer (some a))) k = k v := rd_load1 one160 (fun _ hw => by rw [hw]; exact h)
theorem ldS160 {a : Addr} {v : Value} (h : ∀ w, S.S w → w.cell? a = some v) : Rd Try.prog S (sLoad 160 (.pointer (some a))) k = k v := rd_load1 one160 h
theorem ldB160 {w : World} {b off e : Nat} {cs : List Value} {v : Value} (hb : Box w b cs e) (h : cs[off]? = some v) : Rd Try.prog (WS.at w) (sLoad 160 (.pointer (some ⟨b, off, none⟩))) k = k v := ld160 ((hb.cell off).trans h)
theorem u161 : Try.prog.underlying 161 = some (.slice 4) := by kernel_rfl
@[go_sem] theorem len161 {cs : List Bool} {u : TypeId} {X : Option Addr} {n c : Nat} : Rd Try.prog S (sBuiltin .len #[161] u cs [.slice X n c]) k = k (.int .i64 n) := len_slice u161
theorem ix161 {X : Option Addr} {n c : Nat} {kd : IntKind} {i : Int} (hA : 0 < n → X = some (ad X)) (h0 : 0 ≤ i) (h1 : i < n) : Rd Try.prog S (sIndexAddr 161 (.slice X n c) (.int kd i)) k = k (.pointer (some ((ad X).add i.toNat))) := by rw [rd_indexAddr u161 sz4 hA h0 h1, Nat.mul_one]
theorem ixn161 {X : Option Addr} {n c : Nat} {kd : IntKind} {i : Nat} (hA : 0 < n → X = some (ad X)) (h1 : i < n) : Rd Try.prog S (sIndexAddr 161 (.slice X n c) (.int kd i)) k = k (.pointer (some ((ad X).add i))) := ix161 hA (Int.natCast_nonneg i) (Int.ofNat_lt.2 h1)
theorem ix161_0 {X : Option Addr} {n c : Nat} {kd : IntKind} (hA : 0 < n → X = some (ad X)) (h1 : 0 < n) : Rd Try.prog S (sIndexAddr 161 (.slice X n c) (.int kd 0)) k = k (.pointer (some ((ad X).add 0))) := ixn161 (i := 0) hA h1
theorem ix161_1 {X : Option Addr} {n c : Nat} {kd : IntKind} (hA : 0 < n → X = some (ad X)) (h1 : 1 < n) : Rd Try.prog S (sIndexAddr 161 (.slice X n c) (.int kd 1)) k = k (.pointer (some ((ad X).add 1))) := ixn161 (i := 1) hA h1
theorem ix161_2 {X : Option Addr} {n c : Nat} {kd : IntKind} (hA : 0 < n → X = some (ad X)) (h1 : 2 < n) : Rd Try.prog S (sIndexAddr 161 (.slice X n c) (.int kd 2)) k = k (.pointer (some ((ad X).add 2))) := ixn161 (i := 2) hA h1
theorem ix161_3 {X : Option Addr} {n c : Nat} {kd : IntKind} (hA : 0 < n → X = some (ad X)) (h1 : 3 < n) : Rd Try.prog S (sIndexAddr 161 (.slice X n c) (.int kd 3)) k = k (.pointer (some ((ad X).add 3))) := ixn161 (i := 3) hA h1
theorem ix161_4 {X : Option Addr} {n c : Nat} {kd : IntKind} (hA : 0 < n → X = some (ad X)) (h1 : 4 < n) : Rd Try.prog S (sIndexAddr 161 (.slice X n c) (.int kd 4)) k = k (.pointer (some ((ad X).add 4))) := ixn161 (i := 4) hA h1
theorem ix161_5 {X : Option Addr} {n c : Nat} {kd : IntKind} (hA : 0 < n → X = some (ad X)) (h1 : 5 < n) : Rd Try.prog S (sIndexAddr 161 (.slice X n c) (.int kd 5)) k = k (.pointer (some ((ad X).add 5))) := ixn161 (i := 5) hA h1
theorem inf4 : ∃ i, Try.prog.info? 4 = some i ∧ i.zero = some (.bool false) ∧ i.size = 1 ∧ i.bytes = 1 := inf_of (by kernel_rfl)
theorem ap161 {w : World} {k : Value → World → Prop} {u : TypeId} {cs : List Bool} {B n c m d : Nat} {X Y : Option Addr} {cells news : List Value} (hO : Row w B 4 1 X n c cells) (hS : Src w Y news) (hl : news.length = m * 1) (h1 : ∀ v ∈ news, v.oneCell' = true) (hm : (n + m) * 1 ≤ 140737488355328) (hB : B ≤ w.heap.size) (h : ∀ X' c' w', Row w' B 4 1 X' (n + m) c' (cells ++ news) → w.grownBy w' (blk X) → k (.slice X' (n + m) c') w') : Do Try.prog (sBuiltin .append #[161, 161] u cs [.slice X n c, .slice Y m d]) k w := do_append_of u161 inf4 rfl (by decide) hO hS hl h1 hm (by omega) hB h
theorem mk161 {w : World} {k : Value → World → Prop} {kl kc : IntKind} {n : Nat} (hm : n * 1 ≤ 281474976710656) (h : ∀ b w', w.heap.size ≤ b → b < w'.heap.size → Gr w w' → (∀ B, B ≤ w.heap.size → Row w' B 4 1 (some ⟨b, 0, none⟩) n n (madeCells (Value.cells (.bool false)) (n * 1)).toList) → k (.slice (some ⟨b, 0, none⟩) n n) w') : Do Try.prog (sMakeSlice 161 (.int kl n) (.int kc n)) k w := do_make_of u161 inf4 (by omega) (by omega) h
theorem bs161 {w : World} {k : Value → World → Prop} {n : Nat} {ps : List (Nat × Value)} (cells : List Value) (hn : n ≤ 65536) (hf : Instr.fill (fun j => some (j * 1, 1)) (madeCells (if n * 1 = 0 then #[] else Value.cells (.bool false)) (n * 1)) ps = some cells.toArray) (hl : cells.length = n * 1) (h : ∀ b w', w.heap.size ≤ b → b < w'.heap.size → Gr w w' → Box w' b cells 4 → (∀ B, B ≤ w.heap.size → Row w' B 4 1 (some ⟨b, 0, none⟩) n n cells) → k (.slice (some ⟨b, 0, none⟩) n n) w') : Do Try.prog (sBuildSlice 161 n ps) k w := do_build_of u161 inf4 (by omega) (by omega) hf hl h
theorem sl161 {X : Option Addr} {n c : Nat} {kd kd' : IntKind} {l h : Int} (h0 : 0 ≤ l) (h1 : l ≤ h) (h2 : h ≤ c) : Rd Try.prog S (sSlice 161 (.slice X n c) (some (.int kd l)) (some (.int kd' h)) none) k = k (.slice (sub X l.toNat c 1) (h.toNat - l.toNat) (c - l.toNat)) := rd_slice_lh u161 sz4 h0 h1 h2
theorem slh161 {X : Option Addr} {n c : Nat} {kd' : IntKind} {h : Int} (h1 : 0 ≤ h) (h2 : h ≤ c) : Rd Try.prog S (sSlice 161 (.slice X n c) none (some (.int kd' h)) none) k = k (.slice (sub X 0 c 1) h.toNat c) := rd_slice_h u161 sz4 h1 h2
theorem sll161 {X : Option Addr} {n c : Nat} {kd : IntKind} {l : Int} (h0 : 0 ≤ l) (h1 : l ≤ n) : Rd Try.prog S (sSlice 161 (.slice X n c) (some (.int kd l)) none none) k = k (.slice (sub X l.toNat c 1) (n - l.toNat) (c - l.toNat)) := rd_slice_l u161 sz4 h0 h1
theorem sz161 : szOf Try.prog 161 1 := szOf_of (by kernel_rfl)
theorem one161 : one Try.prog 161 := one_of (by kernel_rfl)
theorem ld161 {w : World} {a : Addr} {v : Value} (h : w.cell? a = some v) : Rd Try.prog (WS.at w) (sLoad 161 (.pointer (some a))) k = k v := rd_load1 one161 (fun _ hw => by rw [hw]; exact h)
theorem ldS161 {a : Addr} {v : Value} (h : ∀ w, S.S w → w.cell? a = some v) : Rd Try.prog S (sLoad 161 (.pointer (some a))) k = k v := rd_load1 one161 h
theorem ldB161 {w : World} {b off e : Nat} {cs : List Value} {v : Value} (hb : Box w b cs e) (h : cs[off]? = some v) : Rd Try.prog (WS.at w) (sLoad 161 (.pointer (some ⟨b, off, none⟩))) k = k v := ld161 ((hb.cell off).trans h)
theorem u162 : Try.prog.underlying 162 = some (.slice 161) := by kernel_rfl
@[go_sem] theorem len162 {cs : List Bool} {u : TypeId} {X : Option Addr} {n c : Nat} : Rd Try.prog S (sBuiltin .len #[162] u cs [.slice X n c]) k = k (.int .i64 n) := len_slice u162
theorem ix162 {X : Option Addr} {n c : Nat} {kd : IntKind} {i : Int} (hA : 0 < n → X = some (ad X)) (h0 : 0 ≤ i) (h1 : i < n) : Rd Try.prog S (sIndexAddr 162 (.slice X n c) (.int kd i)) k = k (.pointer (some ((ad X).add i.toNat))) := by rw [rd_indexAddr u162 sz161 hA h0 h1, Nat.mul_one]
theorem ixn162 {X : Option Addr} {n c : Nat} {kd : IntKind} {i : Nat} (hA : 0 < n → X = some (ad X)) (h1 : i < n) : Rd Try.prog S (sIndexAddr 162 (.slice X n c) (.int kd i)) k = k (.pointer (some ((ad X).add i))) := ix162 hA (Int.natCast_nonneg i) (Int.ofNat_lt.2 h1)
theorem ix162_0 {X : Option Addr} {n c : Nat} {kd : IntKind} (hA : 0 < n → X = some (ad X)) (h1 : 0 < n) : Rd Try.prog S (sIndexAddr 162 (.slice X n c) (.int kd 0)) k = k (.pointer (some ((ad X).add 0))) := ixn162 (i := 0) hA h1
theorem ix162_1 {X : Option Addr} {n c : Nat} {kd : IntKind} (hA : 0 < n → X = some (ad X)) (h1 : 1 < n) : Rd Try.prog S (sIndexAddr 162 (.slice X n c) (.int kd 1)) k = k (.pointer (some ((ad X).add 1))) := ixn162 (i := 1) hA h1
theorem ix162_2 {X : Option Addr} {n c : Nat} {kd : IntKind} (hA : 0 < n → X = some (ad X)) (h1 : 2 < n) : Rd Try.prog S (sIndexAddr 162 (.slice X n c) (.int kd 2)) k = k (.pointer (some ((ad X).add 2))) := ixn162 (i := 2) hA h1
theorem ix162_3 {X : Option Addr} {n c : Nat} {kd : IntKind} (hA : 0 < n → X = some (ad X)) (h1 : 3 < n) : Rd Try.prog S (sIndexAddr 162 (.slice X n c) (.int kd 3)) k = k (.pointer (some ((ad X).add 3))) := ixn162 (i := 3) hA h1
theorem ix162_4 {X : Option Addr} {n c : Nat} {kd : IntKind} (hA : 0 < n → X = some (ad X)) (h1 : 4 < n) : Rd Try.prog S (sIndexAddr 162 (.slice X n c) (.int kd 4)) k = k (.pointer (some ((ad X).add 4))) := ixn162 (i := 4) hA h1
theorem ix162_5 {X : Option Addr} {n c : Nat} {kd : IntKind} (hA : 0 < n → X = some (ad X)) (h1 : 5 < n) : Rd Try.prog S (sIndexAddr 162 (.slice X n c) (.int kd 5)) k = k (.pointer (some ((ad X).add 5))) := ixn162 (i := 5) hA h1
theorem inf161 : ∃ i, Try.prog.info? 161 = some i ∧ i.zero = some (.slice none 0 0) ∧ i.size = 1 ∧ i.bytes = 24 := inf_of (by kernel_rfl)
theorem ap162 {w : World} {k : Value → World → Prop} {u : TypeId} {cs : List Bool} {B n c m d : Nat} {X Y : Option Addr} {cells news : List Value} (hO : Row w B 161 1 X n c cells) (hS : Src w Y news) (hl : news.length = m * 1) (h1 : ∀ v ∈ news, v.oneCell' = true) (hm : (n + m) * 24 ≤ 140737488355328) (hB : B ≤ w.heap.size) (h : ∀ X' c' w', Row w' B 161 1 X' (n + m) c' (cells ++ news) → w.grownBy w' (blk X) → k (.slice X' (n + m) c') w') : Do Try.prog (sBuiltin .append #[162, 162] u cs [.slice X n c, .slice Y m d]) k w := do_append_of u162 inf161 rfl (by decide) hO hS hl h1 hm (by omega) hB h
theorem mk162 {w : World} {k : Value → World → Prop} {kl kc : IntKind} {n : Nat} (hm : n * 24 ≤ 281474976710656) (h : ∀ b w', w.heap.size ≤ b → b < w'.heap.size → Gr w w' → (∀ B, B ≤ w.heap.size → Row w' B 161 1 (some ⟨b, 0, none⟩) n n (madeCells (Value.cells (.slice none 0 0)) (n * 1)).toList) → k (.slice (some ⟨b, 0, none⟩) n n) w') : Do Try.prog (sMakeSlice 162 (.int kl n) (.int kc n)) k w := do_make_of u162 inf161 (by omega) (by omega) h
theorem bs162 {w : World} {k : Value → World → Prop} {n : Nat} {ps : List (Nat × Value)} (cells : List Value) (hn : n ≤ 65536) (hf : Instr.fill (fun j => some (j * 1, 1)) (madeCells (if n * 1 = 0 then #[] else Value.cells (.slice none 0 0)) (n * 1)) ps = some cells.toArray) (hl : cells.length = n * 1) (h : ∀ b w', w.heap.size ≤ b → b < w'.heap.size → Gr w w' → Box w' b cells 161 → (∀ B, B ≤ w.heap.size → Row w' B 161 1 (some ⟨b, 0, none⟩) n n cells) → k (.slice (some ⟨b, 0, none⟩) n n) w') : Do Try.prog (sBuildSlice 162 n ps) k w := do_build_of u162 inf161 (by omega) (by omega) hf hl h
theorem sl162 {X : Option Addr} {n c : Nat} {kd kd' : IntKind} {l h : Int} (h0 : 0 ≤ l) (h1 : l ≤ h) (h2 : h ≤ c) : Rd Try.prog S (sSlice 162 (.slice X n c) (some (.int kd l)) (some (.int kd' h)) none) k = k (.slice (sub X l.toNat c 1) (h.toNat - l.toNat) (c - l.toNat)) := rd_slice_lh u162 sz161 h0 h1 h2
theorem slh162 {X : Option Addr} {n c : Nat} {kd' : IntKind} {h : Int} (h1 : 0 ≤ h) (h2 : h ≤ c) : Rd Try.prog S (sSlice 162 (.slice X n c) none (some (.int kd' h)) none) k = k (.slice (sub X 0 c 1) h.toNat c) := rd_slice_h u162 sz161 h1 h2
theorem sll162 {X : Option Addr} {n c : Nat} {kd : IntKind} {l : Int} (h0 : 0 ≤ l) (h1 : l ≤ n) : Rd Try.prog S (sSlice 162 (.slice X n c) (some (.int kd l)) none none) k = k (.slice (sub X l.toNat c 1) (n - l.toNat) (c - l.toNat)) := rd_slice_l u162 sz161 h0 h1
theorem sz162 : szOf Try.prog 162 1 := szOf_of (by kernel_rfl)
theorem one162 : one Try.prog 162 := one_of (by kernel_rfl)
theorem ld162 {w : World} {a : Addr} {v : Value} (h : w.cell? a = some v) : Rd Try.prog (WS.at w) (sLoad 162 (.pointer (some a))) k = k v := rd_load1 one162 (fun _ hw => by rw [hw]; exact h)
theorem ldS162 {a : Addr} {v : Value} (h : ∀ w, S.S w → w.cell? a = some v) : Rd Try.prog S (sLoad 162 (.pointer (some a))) k = k v := rd_load1 one162 h
theorem ldB162 {w : World} {b off e : Nat} {cs : List Value} {v : Value} (hb : Box w b cs e) (h : cs[off]? = some v) : Rd Try.prog (WS.at w) (sLoad 162 (.pointer (some ⟨b, off, none⟩))) k = k v := ld162 ((hb.cell off).trans h)
theorem sz163 : szOf Try.prog 163 1 := szOf_of (by kernel_rfl)
theorem one163 : one Try.prog 163 := one_of (by kernel_rfl)
theorem ld163 {w : World} {a : Addr} {v : Value} (h : w.cell? a = some v) : Rd Try.prog (WS.at w) (sLoad 163 (.pointer (some a))) k = k v := rd_load1 one163 (fun _ hw => by rw [hw]; exact h)
theorem ldS163 {a : Addr} {v : Value} (h : ∀ w, S.S w → w.cell? a = some v) : Rd Try.prog S (sLoad 163 (.pointer (some a))) k = k v := rd_load1 one163 h
theorem ldB163 {w : World} {b off e : Nat} {cs : List Value} {v : Value} (hb : Box w b cs e) (h : cs[off]? = some v) : Rd Try.prog (WS.at w) (sLoad 163 (.pointer (some ⟨b, off, none⟩))) k = k v := ld163 ((hb.cell off).trans h)
theorem sz164 : szOf Try.prog 164 1 := szOf_of (by kernel_rfl)
theorem one164 : one Try.prog 164 := one_of (by kernel_rfl)
theorem ld164 {w : World} {a : Addr} {v : Value} (h : w.cell? a = some v) : Rd Try.prog (WS.at w) (sLoad 164 (.pointer (some a))) k = k v := rd_load1 one164 (fun _ hw => by rw [hw]; exact h)
theorem ldS164 {a : Addr} {v : Value} (h : ∀ w, S.S w → w.cell? a = some v) : Rd Try.prog S (sLoad 164 (.pointer (some a))) k = k v := rd_load1 one164 h
theorem ldB164 {w : World} {b off e : Nat} {cs : List Value} {v : Value} (hb : Box w b cs e) (h : cs[off]? = some v) : Rd Try.prog (WS.at w) (sLoad 164 (.pointer (some ⟨b, off, none⟩))) k = k v := ld164 ((hb.cell off).trans h)
theorem sz165 : szOf Try.prog 165 1 := szOf_of (by kernel_rfl)
theorem one165 : one Try.prog 165 := one_of (by kernel_rfl)
theorem ld165 {w : World} {a : Addr} {v : Value} (h : w.cell? a = some v) : Rd Try.prog (WS.at w) (sLoad 165 (.pointer (some a))) k = k v := rd_load1 one165 (fun _ hw => by rw [hw]; exact h)
theorem ldS165 {a : Addr} {v : Value} (h : ∀ w, S.S w → w.cell? a = some v) : Rd Try.prog S (sLoad 165 (.pointer (some a))) k = k v := rd_load1 one165 h
theorem ldB165 {w : World} {b off e : Nat} {cs : List Value} {v : Value} (hb : Box w b cs e) (h : cs[off]? = some v) : Rd Try.prog (WS.at w) (sLoad 165 (.pointer (some ⟨b, off, none⟩))) k = k v := ld165 ((hb.cell off).trans h)
theorem sz166 : szOf Try.prog 166 1 := szOf_of (by kernel_rfl)
theorem one166 : one Try.prog 166 := one_of (by kernel_rfl)
theorem ld166 {w : World} {a : Addr} {v : Value} (h : w.cell? a = some v) : Rd Try.prog (WS.at w) (sLoad 166 (.pointer (some a))) k = k v := rd_load1 one166 (fun _ hw => by rw [hw]; exact h)
theorem ldS166 {a : Addr} {v : Value} (h : ∀ w, S.S w → w.cell? a = some v) : Rd Try.prog S (sLoad 166 (.pointer (some a))) k = k v := rd_load1 one166 h
theorem ldB166 {w : World} {b off e : Nat} {cs : List Value} {v : Value} (hb : Box w b cs e) (h : cs[off]? = some v) : Rd Try.prog (WS.at w) (sLoad 166 (.pointer (some ⟨b, off, none⟩))) k = k v := ld166 ((hb.cell off).trans h)
theorem sz167 : szOf Try.prog 167 1 := szOf_of (by kernel_rfl)
theorem one167 : one Try.prog 167 := one_of (by kernel_rfl)
theorem ld167 {w : World} {a : Addr} {v : Value} (h : w.cell? a = some v) : Rd Try.prog (WS.at w) (sLoad 167 (.pointer (some a))) k = k v := rd_load1 one167 (fun _ hw => by rw [hw]; exact h)
theorem ldS167 {a : Addr} {v : Value} (h : ∀ w, S.S w → w.cell? a = some v) : Rd Try.prog S (sLoad 167 (.pointer (some a))) k = k v := rd_load1 one167 h
theorem ldB167 {w : World} {b off e : Nat} {cs : List Value} {v : Value} (hb : Box w b cs e) (h : cs[off]? = some v) : Rd Try.prog (WS.at w) (sLoad 167 (.pointer (some ⟨b, off, none⟩))) k = k v := ld167 ((hb.cell off).trans h)
theorem sz168 : szOf Try.prog 168 1 := szOf_of (by kernel_rfl)
theorem one168 : one Try.prog 168 := one_of (by kernel_rfl)
theorem ld168 {w : World} {a : Addr} {v : Value} (h : w.cell? a = some v) : Rd Try.prog (WS.at w) (sLoad 168 (.pointer (some a))) k = k v := rd_load1 one168 (fun _ hw => by rw [hw]; exact h)
theorem ldS168 {a : Addr} {v : Value} (h : ∀ w, S.S w → w.cell? a = some v) : Rd Try.prog S (sLoad 168 (.pointer (some a))) k = k v := rd_load1 one168 h
theorem ldB168 {w : World} {b off e : Nat} {cs : List Value} {v : Value} (hb : Box w b cs e) (h : cs[off]? = some v) : Rd Try.prog (WS.at w) (sLoad 168 (.pointer (some ⟨b, off, none⟩))) k = k v := ld168 ((hb.cell off).trans h)
theorem sz169 : szOf Try.prog 169 1 := szOf_of (by kernel_rfl)
theorem one169 : one Try.prog 169 := one_of (by kernel_rfl)
theorem ld169 {w : World} {a : Addr} {v : Value} (h : w.cell? a = some v) : Rd Try.prog (WS.at w) (sLoad 169 (.pointer (some a))) k = k v := rd_load1 one169 (fun _ hw => by rw [hw]; exact h)
theorem ldS169 {a : Addr} {v : Value} (h : ∀ w, S.S w → w.cell? a = some v) : Rd Try.prog S (sLoad 169 (.pointer (some a))) k = k v := rd_load1 one169 h
theorem ldB169 {w : World} {b off e : Nat} {cs : List Value} {v : Value} (hb : Box w b cs e) (h : cs[off]? = some v) : Rd Try.prog (WS.at w) (sLoad 169 (.pointer (some ⟨b, off, none⟩))) k = k v := ld169 ((hb.cell off).trans h)
theorem sz170 : szOf Try.prog 170 1 := szOf_of (by kernel_rfl)
theorem one170 : one Try.prog 170 := one_of (by kernel_rfl)
theorem ld170 {w : World} {a : Addr} {v : Value} (h : w.cell? a = some v) : Rd Try.prog (WS.at w) (sLoad 170 (.pointer (some a))) k = k v := rd_load1 one170 (fun _ hw => by rw [hw]; exact h)
theorem ldS170 {a : Addr} {v : Value} (h : ∀ w, S.S w → w.cell? a = some v) : Rd Try.prog S (sLoad 170 (.pointer (some a))) k = k v := rd_load1 one170 h
theorem ldB170 {w : World} {b off e : Nat} {cs : List Value} {v : Value} (hb : Box w b cs e) (h : cs[off]? = some v) : Rd Try.prog (WS.at w) (sLoad 170 (.pointer (some ⟨b, off, none⟩))) k = k v := ld170 ((hb.cell off).trans h)
theorem sz171 : szOf Try.prog 171 1 := szOf_of (by kernel_rfl)
theorem one171 : one Try.prog 171 := one_of (by kernel_rfl)
theorem ld171 {w : World} {a : Addr} {v : Value} (h : w.cell? a = some v) : Rd Try.prog (WS.at w) (sLoad 171 (.pointer (some a))) k = k v := rd_load1 one171 (fun _ hw => by rw [hw]; exact h)
theorem ldS171 {a : Addr} {v : Value} (h : ∀ w, S.S w → w.cell? a = some v) : Rd Try.prog S (sLoad 171 (.pointer (some a))) k = k v := rd_load1 one171 h
theorem ldB171 {w : World} {b off e : Nat} {cs : List Value} {v : Value} (hb : Box w b cs e) (h : cs[off]? = some v) : Rd Try.prog (WS.at w) (sLoad 171 (.pointer (some ⟨b, off, none⟩))) k = k v := ld171 ((hb.cell off).trans h)
theorem u172 : Try.prog.underlying 172 = some (.array 3 3) := by kernel_rfl
theorem ixa172 {a : Addr} {kd : IntKind} {i : Int} (h0 : 0 ≤ i) (h1 : i < 3) : Rd Try.prog S (sIndexAddr 172 (.pointer (some a)) (.int kd i)) k = k (.pointer (some (a.add i.toNat))) := by rw [rd_indexArr u172 sz3 h0 h1, Nat.mul_one]
theorem sz172 : szOf Try.prog 172 3 := szOf_of (by kernel_rfl)
theorem agg172 : agg Try.prog 172 := agg_of (by kernel_rfl)
theorem sz173 : szOf Try.prog 173 1 := szOf_of (by kernel_rfl)
theorem one173 : one Try.prog 173 := one_of (by kernel_rfl)
theorem ld173 {w : World} {a : Addr} {v : Value} (h : w.cell? a = some v) : Rd Try.prog (WS.at w) (sLoad 173 (.pointer (some a))) k = k v := rd_load1 one173 (fun _ hw => by rw [hw]; exact h)
theorem ldS173 {a : Addr} {v : Value} (h : ∀ w, S.S w → w.cell? a = some v) : Rd Try.prog S (sLoad 173 (.pointer (some a))) k = k v := rd_load1 one173 h
theorem ldB173 {w : World} {b off e : Nat} {cs : List Value} {v : Value} (hb : Box w b cs e) (h : cs[off]? = some v) : Rd Try.prog (WS.at w) (sLoad 173 (.pointer (some ⟨b, off, none⟩))) k = k v := ld173 ((hb.cell off).trans h)
theorem sz174 : szOf Try.prog 174 5 := szOf_of (by kernel_rfl)
theorem agg174 : agg Try.prog 174 := agg_of (by kernel_rfl)
@[go_sem] theorem fa175_0 {a : Addr} : Rd Try.prog S (sFieldAddr 175 (.pointer (some a)) 0) k = k (.pointer (some (a.add 0))) := rd_fieldAddr (fld_of (by kernel_rfl))
@[go_sem] theorem fa175_1 {a : Addr} : Rd Try.prog S (sFieldAddr 175 (.pointer (some a)) 1) k = k (.pointer (some (a.add 3))) := rd_fieldAddr (fld_of (by kernel_rfl))
@[go_sem] theorem fa175_2 {a : Addr} : Rd Try.prog S (sFieldAddr 175 (.pointer (some a)) 2) k = k (.pointer (some (a.add 4))) := rd_fieldAddr (fld_of (by kernel_rfl))
theorem sz175 : szOf Try.prog 175 5 := szOf_of (by kernel_rfl)
theorem agg175 : agg Try.prog 175 := agg_of (by kernel_rfl)
theorem sz176 : szOf Try.prog 176 1 := szOf_of (by kernel_rfl)
theorem one176 : one Try.prog 176 := one_of (by kernel_rfl)
theorem ld176 {w : World} {a : Addr} {v : Value} (h : w.cell? a = some v) : Rd Try.prog (WS.at w) (sLoad 176 (.pointer (some a))) k = k v := rd_load1 one176 (fun _ hw => by rw [hw]; exact h)
theorem ldS176 {a : Addr} {v : Value} (h : ∀ w, S.S w → w.cell? a = some v) : Rd Try.prog S (sLoad 176 (.pointer (some a))) k = k v := rd_load1 one176 h
theorem ldB176 {w : World} {b off e : Nat} {cs : List Value} {v : Value} (hb : Box w b cs e) (h : cs[off]? = some v) : Rd Try.prog (WS.at w) (sLoad 176 (.pointer (some ⟨b, off, none⟩))) k = k v := ld176 ((hb.cell off).trans h)
theorem sz177 : szOf Try.prog 177 1 := szOf_of (by kernel_rfl)
theorem one177 : one Try.prog 177 := one_of (by kernel_rfl)
theorem ld177 {w : World} {a : Addr} {v : Value} (h : w.cell? a = some v) : Rd Try.prog (WS.at w) (sLoad 177 (.pointer (some a))) k = k v := rd_load1 one177 (fun _ hw => by rw [hw]; exact h)
theorem ldS177 {a : Addr} {v : Value} (h : ∀ w, S.S w → w.cell? a = some v) : Rd Try.prog S (sLoad 177 (.pointer (some a))) k = k v := rd_load1 one177 h
theorem ldB177 {w : World} {b off e : Nat} {cs : List Value} {v : Value} (hb : Box w b cs e) (h : cs[off]? = some v) : Rd Try.prog (WS.at w) (sLoad 177 (.pointer (some ⟨b, off, none⟩))) k = k v := ld177 ((hb.cell off).trans h)
theorem sz178 : szOf Try.prog 178 1 := szOf_of (by kernel_rfl)
theorem one178 : one Try.prog 178 := one_of (by kernel_rfl)
theorem ld178 {w : World} {a : Addr} {v : Value} (h : w.cell? a = some v) : Rd Try.prog (WS.at w) (sLoad 178 (.pointer (some a))) k = k v := rd_load1 one178 (fun _ hw => by rw [hw]; exact h)
theorem ldS178 {a : Addr} {v : Value} (h : ∀ w, S.S w → w.cell? a = some v) : Rd Try.prog S (sLoad 178 (.pointer (some a))) k = k v := rd_load1 one178 h
theorem ldB178 {w : World} {b off e : Nat} {cs : List Value} {v : Value} (hb : Box w b cs e) (h : cs[off]? = some v) : Rd Try.prog (WS.at w) (sLoad 178 (.pointer (some ⟨b, off, none⟩))) k = k v := ld178 ((hb.cell off).trans h)
theorem sz179 : szOf Try.prog 179 1 := szOf_of (by kernel_rfl)
theorem one179 : one Try.prog 179 := one_of (by kernel_rfl)
theorem ld179 {w : World} {a : Addr} {v : Value} (h : w.cell? a = some v) : Rd Try.prog (WS.at w) (sLoad 179 (.pointer (some a))) k = k v := rd_load1 one179 (fun _ hw => by rw [hw]; exact h)
theorem ldS179 {a : Addr} {v : Value} (h : ∀ w, S.S w → w.cell? a = some v) : Rd Try.prog S (sLoad 179 (.pointer (some a))) k = k v := rd_load1 one179 h
theorem ldB179 {w : World} {b off e : Nat} {cs : List Value} {v : Value} (hb : Box w b cs e) (h : cs[off]? = some v) : Rd Try.prog (WS.at w) (sLoad 179 (.pointer (some ⟨b, off, none⟩))) k = k v := ld179 ((hb.cell off).trans h)
theorem sz180 : szOf Try.prog 180 1 := szOf_of (by kernel_rfl)
theorem one180 : one Try.prog 180 := one_of (by kernel_rfl)
theorem ld180 {w : World} {a : Addr} {v : Value} (h : w.cell? a = some v) : Rd Try.prog (WS.at w) (sLoad 180 (.pointer (some a))) k = k v := rd_load1 one180 (fun _ hw => by rw [hw]; exact h)
theorem ldS180 {a : Addr} {v : Value} (h : ∀ w, S.S w → w.cell? a = some v) : Rd Try.prog S (sLoad 180 (.pointer (some a))) k = k v := rd_load1 one180 h
theorem ldB180 {w : World} {b off e : Nat} {cs : List Value} {v : Value} (hb : Box w b cs e) (h : cs[off]? = some v) : Rd Try.prog (WS.at w) (sLoad 180 (.pointer (some ⟨b, off, none⟩))) k = k v := ld180 ((hb.cell off).trans h)
theorem sz181 : szOf Try.prog 181 1 := szOf_of (by kernel_rfl)
theorem one181 : one Try.prog 181 := one_of (by kernel_rfl)
theorem ld181 {w : World} {a : Addr} {v : Value} (h : w.cell? a = some v) : Rd Try.prog (WS.at w) (sLoad 181 (.pointer (some a))) k = k v := rd_load1 one181 (fun _ hw => by rw [hw]; exact h)
theorem ldS181 {a : Addr} {v : Value} (h : ∀ w, S.S w → w.cell? a = some v) : Rd Try.prog S (sLoad 181 (.pointer (some a))) k = k v := rd_load1 one181 h
theorem ldB181 {w : World} {b off e : Nat} {cs : List Value} {v : Value} (hb : Box w b cs e) (h : cs[off]? = some v) : Rd Try.prog (WS.at w) (sLoad 181 (.pointer (some ⟨b, off, none⟩))) k = k v := ld181 ((hb.cell off).trans h)
theorem sz183 : szOf Try.prog 183 1 := szOf_of (by kernel_rfl)
theorem one183 : one Try.prog 183 := one_of (by kernel_rfl)
theorem ld183 {w : World} {a : Addr} {v : Value} (h : w.cell? a = some v) : Rd Try.prog (WS.at w) (sLoad 183 (.pointer (some a))) k = k v := rd_load1 one183 (fun _ hw => by rw [hw]; exact h)
theorem ldS183 {a : Addr} {v : Value} (h : ∀ w, S.S w → w.cell? a = some v) : Rd Try.prog S (sLoad 183 (.pointer (some a))) k = k v := rd_load1 one183 h
theorem ldB183 {w : World} {b off e : Nat} {cs : List Value} {v : Value} (hb : Box w b cs e) (h : cs[off]? = some v) : Rd Try.prog (WS.at w) (sLoad 183 (.pointer (some ⟨b, off, none⟩))) k = k v := ld183 ((hb.cell off).trans h)
theorem sz184 : szOf Try.prog 184 1 := szOf_of (by kernel_rfl)
theorem one184 : one Try.prog 184 := one_of (by kernel_rfl)
theorem ld184 {w : World} {a : Addr} {v : Value} (h : w.cell? a = some v) : Rd Try.prog (WS.at w) (sLoad 184 (.pointer (some a))) k = k v := rd_load1 one184 (fun _ hw => by rw [hw]; exact h)
theorem ldS184 {a : Addr} {v : Value} (h : ∀ w, S.S w → w.cell? a = some v) : Rd Try.prog S (sLoad 184 (.pointer (some a))) k = k v := rd_load1 one184 h
theorem ldB184 {w : World} {b off e : Nat} {cs : List Value} {v : Value} (hb : Box w b cs e) (h : cs[off]? = some v) : Rd Try.prog (WS.at w) (sLoad 184 (.pointer (some ⟨b, off, none⟩))) k = k v := ld184 ((hb.cell off).trans h)
theorem sz185 : szOf Try.prog 185 1 := szOf_of (by kernel_rfl)
theorem one185 : one Try.prog 185 := one_of (by kernel_rfl)
theorem ld185 {w : World} {a : Addr} {v : Value} (h : w.cell? a = some v) : Rd Try.prog (WS.at w) (sLoad 185 (.pointer (some a))) k = k v := rd_load1 one185 (fun _ hw => by rw [hw]; exact h)
theorem ldS185 {a : Addr} {v : Value} (h : ∀ w, S.S w → w.cell? a = some v) : Rd Try.prog S (sLoad 185 (.pointer (some a))) k = k v := rd_load1 one185 h
theorem ldB185 {w : World} {b off e : Nat} {cs : List Value} {v : Value} (hb : Box w b cs e) (h : cs[off]? = some v) : Rd Try.prog (WS.at w) (sLoad 185 (.pointer (some ⟨b, off, none⟩))) k = k v := ld185 ((hb.cell off).trans h)
theorem u186 : Try.prog.underlying 186 = some (.array 5 3) := by kernel_rfl
theorem ixa186 {a : Addr} {kd : IntKind} {i : Int} (h0 : 0 ≤ i) (h1 : i < 5) : Rd Try.prog S (sIndexAddr 186 (.pointer (some a)) (.int kd i)) k = k (.pointer (some (a.add i.toNat))) := by rw [rd_indexArr u186 sz3 h0 h1, Nat.mul_one]
theorem sz186 : szOf Try.prog 186 5 := szOf_of (by kernel_rfl)
theorem agg186 : agg Try.prog 186 := agg_of (by kernel_rfl)
theorem sz187 : szOf Try.prog 187 1 := szOf_of (by kernel_rfl)
theorem one187 : one Try.prog 187 := one_of (by kernel_rfl)
theorem ld187 {w : World} {a : Addr} {v : Value} (h : w.cell? a = some v) : Rd Try.prog (WS.at w) (sLoad 187 (.pointer (some a))) k = k v := rd_load1 one187 (fun _ hw => by rw [hw]; exact h)
theorem ldS187 {a : Addr} {v : Value} (h : ∀ w, S.S w → w.cell? a = some v) : Rd Try.prog S (sLoad 187 (.pointer (some a))) k = k v := rd_load1 one187 h
theorem ldB187 {w : World} {b off e : Nat} {cs : List Value} {v : Value} (hb : Box w b cs e) (h : cs[off]? = some v) : Rd Try.prog (WS.at w) (sLoad 187 (.pointer (some ⟨b, off, none⟩))) k = k v := ld187 ((hb.cell off).trans h)
theorem sz188 : szOf Try.prog 188 1 := szOf_of (by kernel_rfl)
theorem one188 : one Try.prog 188 := one_of (by kernel_rfl)
theorem ld188 {w : World} {a : Addr} {v : Value} (h : w.cell? a = some v) : Rd Try.prog (WS.at w) (sLoad 188 (.pointer (some a))) k = k v := rd_load1 one188 (fun _ hw => by rw [hw]; exact h)
theorem ldS188 {a : Addr} {v : Value} (h : ∀ w, S.S w → w.cell? a = some v) : Rd Try.prog S (sLoad 188 (.pointer (some a))) k = k v := rd_load1 one188 h
theorem ldB188 {w : World} {b off e : Nat} {cs : List Value} {v : Value} (hb : Box w b cs e) (h : cs[off]? = some v) : Rd Try.prog (WS.at w) (sLoad 188 (.pointer (some ⟨b, off, none⟩))) k = k v := ld188 ((hb.cell off).trans h)
theorem sz189 : szOf Try.prog 189 1 := szOf_of (by kernel_rfl)
theorem one189 : one Try.prog 189 := one_of (by kernel_rfl)
theorem ld189 {w : World} {a : Addr} {v : Value} (h : w.cell? a = some v) : Rd Try.prog (WS.at w) (sLoad 189 (.pointer (some a))) k = k v := rd_load1 one189 (fun _ hw => by rw [hw]; exact h)
theorem ldS189 {a : Addr} {v : Value} (h : ∀ w, S.S w → w.cell? a = some v) : Rd Try.prog S (sLoad 189 (.pointer (some a))) k = k v := rd_load1 one189 h
theorem ldB189 {w : World} {b off e : Nat} {cs : List Value} {v : Value} (hb : Box w b cs e) (h : cs[off]? = some v) : Rd Try.prog (WS.at w) (sLoad 189 (.pointer (some ⟨b, off, none⟩))) k = k v := ld189 ((hb.cell off).trans h)
theorem sz190 : szOf Try.prog 190 1 := szOf_of (by kernel_rfl)
theorem one190 : one Try.prog 190 := one_of (by kernel_rfl)
theorem ld190 {w : World} {a : Addr} {v : Value} (h : w.cell? a = some v) : Rd Try.prog (WS.at w) (sLoad 190 (.pointer (some a))) k = k v := rd_load1 one190 (fun _ hw => by rw [hw]; exact h)
theorem ldS190 {a : Addr} {v : Value} (h : ∀ w, S.S w → w.cell? a = some v) : Rd Try.prog S (sLoad 190 (.pointer (some a))) k = k v := rd_load1 one190 h
theorem ldB190 {w : World} {b off e : Nat} {cs : List Value} {v : Value} (hb : Box w b cs e) (h : cs[off]? = some v) : Rd Try.prog (WS.at w) (sLoad 190 (.pointer (some ⟨b, off, none⟩))) k = k v := ld190 ((hb.cell off).trans h)
theorem sz191 : szOf Try.prog 191 1 := szOf_of (by kernel_rfl)
theorem one191 : one Try.prog 191 := one_of (by kernel_rfl)
theorem ld191 {w : World} {a : Addr} {v : Value} (h : w.cell? a = some v) : Rd Try.prog (WS.at w) (sLoad 191 (.pointer (some a))) k = k v := rd_load1 one191 (fun _ hw => by rw [hw]; exact h)
theorem ldS191 {a : Addr} {v : Value} (h : ∀ w, S.S w → w.cell? a = some v) : Rd Try.prog S (sLoad 191 (.pointer (some a))) k = k v := rd_load1 one191 h
theorem ldB191 {w : World} {b off e : Nat} {cs : List Value} {v : Value} (hb : Box w b cs e) (h : cs[off]? = some v) : Rd Try.prog (WS.at w) (sLoad 191 (.pointer (some ⟨b, off, none⟩))) k = k v := ld191 ((hb.cell off).trans h)
theorem sz192 : szOf Try.prog 192 1 := szOf_of (by kernel_rfl)
theorem one192 : one Try.prog 192 := one_of (by kernel_rfl)
theorem ld192 {w : World} {a : Addr} {v : Value} (h : w.cell? a = some v) : Rd Try.prog (WS.at w) (sLoad 192 (.pointer (some a))) k = k v := rd_load1 one192 (fun _ hw => by rw [hw]; exact h)
theorem ldS192 {a : Addr} {v : Value} (h : ∀ w, S.S w → w.cell? a = some v) : Rd Try.prog S (sLoad 192 (.pointer (some a))) k = k v := rd_load1 one192 h
theorem ldB192 {w : World} {b off e : Nat} {cs : List Value} {v : Value} (hb : Box w b cs e) (h : cs[off]? = some v) : Rd Try.prog (WS.at w) (sLoad 192 (.pointer (some ⟨b, off, none⟩))) k = k v := ld192 ((hb.cell off).trans h)
theorem sz193 : szOf Try.prog 193 1 := szOf_of (by kernel_rfl)
theorem one193 : one Try.prog 193 := one_of (by kernel_rfl)
theorem ld193 {w : World} {a : Addr} {v : Value} (h : w.cell? a = some v) : Rd Try.prog (WS.at w) (sLoad 193 (.pointer (some a))) k = k v := rd_load1 one193 (fun _ hw => by rw [hw]; exact h)
theorem ldS193 {a : Addr} {v : Value} (h : ∀ w, S.S w → w.cell? a = some v) : Rd Try.prog S (sLoad 193 (.pointer (some a))) k = k v := rd_load1 one193 h
theorem ldB193 {w : World} {b off e : Nat} {cs : List Value} {v : Value} (hb : Box w b cs e) (h : cs[off]? = some v) : Rd Try.prog (WS.at w) (sLoad 193 (.pointer (some ⟨b, off, none⟩))) k = k v := ld193 ((hb.cell off).trans h)
theorem sz194 : szOf Try.prog 194 1 := szOf_of (by kernel_rfl)
theorem one194 : one Try.prog 194 := one_of (by kernel_rfl)
theorem ld194 {w : World} {a : Addr} {v : Value} (h : w.cell? a = some v) : Rd Try.prog (WS.at w) (sLoad 194 (.pointer (some a))) k = k v := rd_load1 one194 (fun _ hw => by rw [hw]; exact h)
theorem ldS194 {a : Addr} {v : Value} (h : ∀ w, S.S w → w.cell? a = some v) : Rd Try.prog S (sLoad 194 (.pointer (some a))) k = k v := rd_load1 one194 h
theorem ldB194 {w : World} {b off e : Nat} {cs : List Value} {v : Value} (hb : Box w b cs e) (h : cs[off]? = some v) : Rd Try.prog (WS.at w) (sLoad 194 (.pointer (some ⟨b, off, none⟩))) k = k v := ld194 ((hb.cell off).trans h)
theorem sz195 : szOf Try.prog 195 1 := szOf_of (by kernel_rfl)
theorem one195 : one Try.prog 195 := one_of (by kernel_rfl)
theorem ld195 {w : World} {a : Addr} {v : Value} (h : w.cell? a = some v) : Rd Try.prog (WS.at w) (sLoad 195 (.pointer (some a))) k = k v := rd_load1 one195 (fun _ hw => by rw [hw]; exact h)
theorem ldS195 {a : Addr} {v : Value} (h : ∀ w, S.S w → w.cell? a = some v) : Rd Try.prog S (sLoad 195 (.pointer (some a))) k = k v := rd_load1 one195 h
theorem ldB195 {w : World} {b off e : Nat} {cs : List Value} {v : Value} (hb : Box w b cs e) (h : cs[off]? = some v) : Rd Try.prog (WS.at w) (sLoad 195 (.pointer (some ⟨b, off, none⟩))) k = k v := ld195 ((hb.cell off).trans h)
theorem sz196 : szOf Try.prog 196 1 := szOf_of (by kernel_rfl)
theorem one196 : one Try.prog 196 := one_of (by kernel_rfl)
theorem ld196 {w : World} {a : Addr} {v : Value} (h : w.cell? a = some v) : Rd Try.prog (WS.at w) (sLoad 196 (.pointer (some a))) k = k v := rd_load1 one196 (fun _ hw => by rw [hw]; exact h)
theorem ldS196 {a : Addr} {v : Value} (h : ∀ w, S.S w → w.cell? a = some v) : Rd Try.prog S (sLoad 196 (.pointer (some a))) k = k v := rd_load1 one196 h
theorem ldB196 {w : World} {b off e : Nat} {cs : List Value} {v : Value} (hb : Box w b cs e) (h : cs[off]? = some v) : Rd Try.prog (WS.at w) (sLoad 196 (.pointer (some ⟨b, off, none⟩))) k = k v := ld196 ((hb.cell off).trans h)
theorem sz198 : szOf Try.prog 198 1 := szOf_of (by kernel_rfl)
theorem one198 : one Try.prog 198 := one_of (by kernel_rfl)
theorem ld198 {w : World} {a : Addr} {v : Value} (h : w.cell? a = some v) : Rd Try.prog (WS.at w) (sLoad 198 (.pointer (some a))) k = k v := rd_load1 one198 (fun _ hw => by rw [hw]; exact h)
theorem ldS198 {a : Addr} {v : Value} (h : ∀ w, S.S w → w.cell? a = some v) : Rd Try.prog S (sLoad 198 (.pointer (some a))) k = k v := rd_load1 one198 h
theorem ldB198 {w : World} {b off e : Nat} {cs : List Value} {v : Value} (hb : Box w b cs e) (h : cs[off]? = some v) : Rd Try.prog (WS.at w) (sLoad 198 (.pointer (some ⟨b, off, none⟩))) k = k v := ld198 ((hb.cell off).trans h)
theorem sz199 : szOf Try.prog 199 1 := szOf_of (by kernel_rfl)
theorem one199 : one Try.prog 199 := one_of (by kernel_rfl)
theorem ld199 {w : World} {a : Addr} {v : Value} (h : w.cell? a = some v) : Rd Try.prog (WS.at w) (sLoad 199 (.pointer (some a))) k = k v := rd_load1 one199 (fun _ hw => by rw [hw]; exact h)
theorem ldS199 {a : Addr} {v : Value} (h : ∀ w, S.S w → w.cell? a = some v) : Rd Try.prog S (sLoad 199 (.pointer (some a))) k = k v := rd_load1 one199 h
theorem ldB199 {w : World} {b off e : Nat} {cs : List Value} {v : Value} (hb : Box w b cs e) (h : cs[off]? = some v) : Rd Try.prog (WS.at w) (sLoad 199 (.pointer (some ⟨b, off, none⟩))) k = k v := ld199 ((hb.cell off).trans h)
theorem sz200 : szOf Try.prog 200 1 := szOf_of (by kernel_rfl)
theorem one200 : one Try.prog 200 := one_of (by kernel_rfl)
theorem ld200 {w : World} {a : Addr} {v : Value} (h : w.cell? a = some v) : Rd Try.prog (WS.at w) (sLoad 200 (.pointer (some a))) k = k v := rd_load1 one200 (fun _ hw => by rw [hw]; exact h)
theorem ldS200 {a : Addr} {v : Value} (h : ∀ w, S.S w → w.cell? a = some v) : Rd Try.prog S (sLoad 200 (.pointer (some a))) k = k v := rd_load1 one200 h
theorem ldB200 {w : World} {b off e : Nat} {cs : List Value} {v : Value} (hb : Box w b cs e) (h : cs[off]? = some v) : Rd Try.prog (WS.at w) (sLoad 200 (.pointer (some ⟨b, off, none⟩))) k = k v := ld200 ((hb.cell off).trans h)
theorem sz201 : szOf Try.prog 201 1 := szOf_of (by kernel_rfl)
theorem one201 : one Try.prog 201 := one_of (by kernel_rfl)
theorem ld201 {w : World} {a : Addr} {v : Value} (h : w.cell? a = some v) : Rd Try.prog (WS.at w) (sLoad 201 (.pointer (some a))) k = k v := rd_load1 one201 (fun _ hw => by rw [hw]; exact h)
theorem ldS201 {a : Addr} {v : Value} (h : ∀ w, S.S w → w.cell? a = some v) : Rd Try.prog S (sLoad 201 (.pointer (some a))) k = k v := rd_load1 one201 h
theorem ldB201 {w : World} {b off e : Nat} {cs : List Value} {v : Value} (hb : Box w b cs e) (h : cs[off]? = some v) : Rd Try.prog (WS.at w) (sLoad 201 (.pointer (some ⟨b, off, none⟩))) k = k v := ld201 ((hb.cell off).trans h)
theorem sz202 : szOf Try.prog 202 1 := szOf_of (by kernel_rfl)
theorem one202 : one Try.prog 202 := one_of (by kernel_rfl)
theorem ld202 {w : World} {a : Addr} {v : Value} (h : w.cell? a = some v) : Rd Try.prog (WS.at w) (sLoad 202 (.pointer (some a))) k = k v := rd_load1 one202 (fun _ hw => by rw [hw]; exact h)
theorem ldS202 {a : Addr} {v : Value} (h : ∀ w, S.S w → w.cell? a = some v) : Rd Try.prog S (sLoad 202 (.pointer (some a))) k = k v := rd_load1 one202 h
theorem ldB202 {w : World} {b off e : Nat} {cs : List Value} {v : Value} (hb : Box w b cs e) (h : cs[off]? = some v) : Rd Try.prog (WS.at w) (sLoad 202 (.pointer (some ⟨b, off, none⟩))) k = k v := ld202 ((hb.cell off).trans h)
theorem sz203 : szOf Try.prog 203 1 := szOf_of (by kernel_rfl)
theorem one203 : one Try.prog 203 := one_of (by kernel_rfl)
theorem ld203 {w : World} {a : Addr} {v : Value} (h : w.cell? a = some v) : Rd Try.prog (WS.at w) (sLoad 203 (.pointer (some a))) k = k v := rd_load1 one203 (fun _ hw => by rw [hw]; exact h)
theorem ldS203 {a : Addr} {v : Value} (h : ∀ w, S.S w → w.cell? a = some v) : Rd Try.prog S (sLoad 203 (.pointer (some a))) k = k v := rd_load1 one203 h
theorem ldB203 {w : World} {b off e : Nat} {cs : List Value} {v : Value} (hb : Box w b cs e) (h : cs[off]? = some v) : Rd Try.prog (WS.at w) (sLoad 203 (.pointer (some ⟨b, off, none⟩))) k = k v := ld203 ((hb.cell off).trans h)
theorem sz204 : szOf Try.prog 204 1 := szOf_of (by kernel_rfl)
theorem one204 : one Try.prog 204 := one_of (by kernel_rfl)
theorem ld204 {w : World} {a : Addr} {v : Value} (h : w.cell? a = some v) : Rd Try.prog (WS.at w) (sLoad 204 (.pointer (some a))) k = k v := rd_load1 one204 (fun _ hw => by rw [hw]; exact h)
theorem ldS204 {a : Addr} {v : Value} (h : ∀ w, S.S w → w.cell? a = some v) : Rd Try.prog S (sLoad 204 (.pointer (some a))) k = k v := rd_load1 one204 h
theorem ldB204 {w : World} {b off e : Nat} {cs : List Value} {v : Value} (hb : Box w b cs e) (h : cs[off]? = some v) : Rd Try.prog (WS.at w) (sLoad 204 (.pointer (some ⟨b, off, none⟩))) k = k v := ld204 ((hb.cell off).trans h)
theorem sz205 : szOf Try.prog 205 1 := szOf_of (by kernel_rfl)
theorem one205 : one Try.prog 205 := one_of (by kernel_rfl)
theorem ld205 {w : World} {a : Addr} {v : Value} (h : w.cell? a = some v) : Rd Try.prog (WS.at w) (sLoad 205 (.pointer (some a))) k = k v := rd_load1 one205 (fun _ hw => by rw [hw]; exact h)
theorem ldS205 {a : Addr} {v : Value} (h : ∀ w, S.S w → w.cell? a = some v) : Rd Try.prog S (sLoad 205 (.pointer (some a))) k = k v := rd_load1 one205 h
theorem ldB205 {w : World} {b off e : Nat} {cs : List Value} {v : Value} (hb : Box w b cs e) (h : cs[off]? = some v) : Rd Try.prog (WS.at w) (sLoad 205 (.pointer (some ⟨b, off, none⟩))) k = k v := ld205 ((hb.cell off).trans h)
theorem sz206 : szOf Try.prog 206 1 := szOf_of (by kernel_rfl)
theorem one206 : one Try.prog 206 := one_of (by kernel_rfl)
theorem ld206 {w : World} {a : Addr} {v : Value} (h : w.cell? a = some v) : Rd Try.prog (WS.at w) (sLoad 206 (.pointer (some a))) k = k v := rd_load1 one206 (fun _ hw => by rw [hw]; exact h)
theorem ldS206 {a : Addr} {v : Value} (h : ∀ w, S.S w → w.cell? a = some v) : Rd Try.prog S (sLoad 206 (.pointer (some a))) k = k v := rd_load1 one206 h
theorem ldB206 {w : World} {b off e : Nat} {cs : List Value} {v : Value} (hb : Box w b cs e) (h : cs[off]? = some v) : Rd Try.prog (WS.at w) (sLoad 206 (.pointer (some ⟨b, off, none⟩))) k = k v := ld206 ((hb.cell off).trans h)
theorem sz207 : szOf Try.prog 207 1 := szOf_of (by kernel_rfl)
theorem one207 : one Try.prog 207 := one_of (by kernel_rfl)
theorem ld207 {w : World} {a : Addr} {v : Value} (h : w.cell? a = some v) : Rd Try.prog (WS.at w) (sLoad 207 (.pointer (some a))) k = k v := rd_load1 one207 (fun _ hw => by rw [hw]; exact h)
theorem ldS207 {a : Addr} {v : Value} (h : ∀ w, S.S w → w.cell? a = some v) : Rd Try.prog S (sLoad 207 (.pointer (some a))) k = k v := rd_load1 one207 h
theorem ldB207 {w : World} {b off e : Nat} {cs : List Value} {v : Value} (hb : Box w b cs e) (h : cs[off]? = some v) : Rd Try.prog (WS.at w) (sLoad 207 (.pointer (some ⟨b, off, none⟩))) k = k v := ld207 ((hb.cell off).trans h)
theorem sz208 : szOf Try.prog 208 1 := szOf_of (by kernel_rfl)
theorem one208 : one Try.prog 208 := one_of (by kernel_rfl)
theorem ld208 {w : World} {a : Addr} {v : Value} (h : w.cell? a = some v) : Rd Try.prog (WS.at w) (sLoad 208 (.pointer (some a))) k = k v := rd_load1 one208 (fun _ hw => by rw [hw]; exact h)
theorem ldS208 {a : Addr} {v : Value} (h : ∀ w, S.S w → w.cell? a = some v) : Rd Try.prog S (sLoad 208 (.pointer (some a))) k = k v := rd_load1 one208 h
theorem ldB208 {w : World} {b off e : Nat} {cs : List Value} {v : Value} (hb : Box w b cs e) (h : cs[off]? = some v) : Rd Try.prog (WS.at w) (sLoad 208 (.pointer (some ⟨b, off, none⟩))) k = k v := ld208 ((hb.cell off).trans h)
theorem sz209 : szOf Try.prog 209 1 := szOf_of (by kernel_rfl)
theorem one209 : one Try.prog 209 := one_of (by kernel_rfl)
theorem ld209 {w : World} {a : Addr} {v : Value} (h : w.cell? a = some v) : Rd Try.prog (WS.at w) (sLoad 209 (.pointer (some a))) k = k v := rd_load1 one209 (fun _ hw => by rw [hw]; exact h)
theorem ldS209 {a : Addr} {v : Value} (h : ∀ w, S.S w → w.cell? a = some v) : Rd Try.prog S (sLoad 209 (.pointer (some a))) k = k v := rd_load1 one209 h
theorem ldB209 {w : World} {b off e : Nat} {cs : List Value} {v : Value} (hb : Box w b cs e) (h : cs[off]? = some v) : Rd Try.prog (WS.at w) (sLoad 209 (.pointer (some ⟨b, off, none⟩))) k = k v := ld209 ((hb.cell off).trans h)
theorem sz210 : szOf Try.prog 210 1 := szOf_of (by kernel_rfl)
theorem one210 : one Try.prog 210 := one_of (by kernel_rfl)
theorem ld210 {w : World} {a : Addr} {v : Value} (h : w.cell? a = some v) : Rd Try.prog (WS.at w) (sLoad 210 (.pointer (some a))) k = k v := rd_load1 one210 (fun _ hw => by rw [hw]; exact h)
theorem ldS210 {a : Addr} {v : Value} (h : ∀ w, S.S w → w.cell? a = some v) : Rd Try.prog S (sLoad 210 (.pointer (some a))) k = k v := rd_load1 one210 h
theorem ldB210 {w : World} {b off e : Nat} {cs : List Value} {v : Value} (hb : Box w b cs e) (h : cs[off]? = some v) : Rd Try.prog (WS.at w) (sLoad 210 (.pointer (some ⟨b, off, none⟩))) k = k v := ld210 ((hb.cell off).trans h)
theorem sz211 : szOf Try.prog 211 1 := szOf_of (by kernel_rfl)
theorem one211 : one Try.prog 211 := one_of (by kernel_rfl)
theorem ld211 {w : World} {a : Addr} {v : Value} (h : w.cell? a = some v) : Rd Try.prog (WS.at w) (sLoad 211 (.pointer (some a))) k = k v := rd_load1 one211 (fun _ hw => by rw [hw]; exact h)
theorem ldS211 {a : Addr} {v : Value} (h : ∀ w, S.S w → w.cell? a = some v) : Rd Try.prog S (sLoad 211 (.pointer (some a))) k = k v := rd_load1 one211 h
theorem ldB211 {w : World} {b off e : Nat} {cs : List Value} {v : Value} (hb : Box w b cs e) (h : cs[off]? = some v) : Rd Try.prog (WS.at w) (sLoad 211 (.pointer (some ⟨b, off, none⟩))) k = k v := ld211 ((hb.cell off).trans h)
theorem sz213 : szOf Try.prog 213 1 := szOf_of (by kernel_rfl)
theorem one213 : one Try.prog 213 := one_of (by kernel_rfl)
theorem ld213 {w : World} {a : Addr} {v : Value} (h : w.cell? a = some v) : Rd Try.prog (WS.at w) (sLoad 213 (.pointer (some a))) k = k v := rd_load1 one213 (fun _ hw => by rw [hw]; exact h)
theorem ldS213 {a : Addr} {v : Value} (h : ∀ w, S.S w → w.cell? a = some v) : Rd Try.prog S (sLoad 213 (.pointer (some a))) k = k v := rd_load1 one213 h
theorem ldB213 {w : World} {b off e : Nat} {cs : List Value} {v : Value} (hb : Box w b cs e) (h : cs[off]? = some v) : Rd Try.prog (WS.at w) (sLoad 213 (.pointer (some ⟨b, off, none⟩))) k = k v := ld213 ((hb.cell off).trans h)
theorem sz214 : szOf Try.prog 214 1 := szOf_of (by kernel_rfl)
theorem one214 : one Try.prog 214 := one_of (by kernel_rfl)
theorem ld214 {w : World} {a : Addr} {v : Value} (h : w.cell? a = some v) : Rd Try.prog (WS.at w) (sLoad 214 (.pointer (some a))) k = k v := rd_load1 one214 (fun _ hw => by rw [hw]; exact h)
theorem ldS214 {a : Addr} {v : Value} (h : ∀ w, S.S w → w.cell? a = some v) : Rd Try.prog S (sLoad 214 (.pointer (some a))) k = k v := rd_load1 one214 h
theorem ldB214 {w : World} {b off e : Nat} {cs : List Value} {v : Value} (hb : Box w b cs e) (h : cs[off]? = some v) : Rd Try.prog (WS.at w) (sLoad 214 (.pointer (some ⟨b, off, none⟩))) k = k v := ld214 ((hb.cell off).trans h)
theorem sz215 : szOf Try.prog 215 4 := szOf_of (by kernel_rfl)
theorem agg215 : agg Try.prog 215 := agg_of (by kernel_rfl)
@[go_sem] theorem fa216_0 {a : Addr} : Rd Try.prog S (sFieldAddr 216 (.pointer (some a)) 0) k = k (.pointer (some (a.add 0))) := rd_fieldAddr (fld_of (by kernel_rfl))
@[go_sem] theorem fa216_1 {a : Addr} : Rd Try.prog S (sFieldAddr 216 (.pointer (some a)) 1) k = k (.pointer (some (a.add 1))) := rd_fieldAddr (fld_of (by kernel_rfl))
@[go_sem] theorem fa216_2 {a : Addr} : Rd Try.prog S (sFieldAddr 216 (.pointer (some a)) 2) k = k (.pointer (some (a.add 2))) := rd_fieldAddr (fld_of (by kernel_rfl))
@[go_sem] theorem fa216_3 {a : Addr} : Rd Try.prog S (sFieldAddr 216 (.pointer (some a)) 3) k = k (.pointer (some (a.add 3))) := rd_fieldAddr (fld_of (by kernel_rfl))
theorem sz216 : szOf Try.prog 216 4 := szOf_of (by kernel_rfl)
theorem agg216 : agg Try.prog 216 := agg_of (by kernel_rfl)
theorem u217 : Try.prog.underlying 217 = some (.array 0 16) := by kernel_rfl
theorem ixa217 {a : Addr} {kd : IntKind} {i : Int} (h0 : 0 ≤ i) (h1 : i < 0) : Rd Try.prog S (sIndexAddr 217 (.pointer (some a)) (.int kd i)) k = k (.pointer (some (a.add i.toNat))) := by rw [rd_indexArr u217 sz16 h0 h1, Nat.mul_one]
theorem sz217 : szOf Try.prog 217 0 := szOf_of (by kernel_rfl)
theorem agg217 : agg Try.prog 217 := agg_of (by kernel_rfl)
theorem sz218 : szOf Try.prog 218 0 := szOf_of (by kernel_rfl)
theorem agg218 : agg Try.prog 218 := agg_of (by kernel_rfl)
theorem sz219 : szOf Try.prog 219 0 := szOf_of (by kernel_rfl)
theorem agg219 : agg Try.prog 219 := agg_of (by kernel_rfl)
theorem sz220 : szOf Try.prog 220 1 := szOf_of (by kernel_rfl)
theorem one220 : one Try.prog 220 := one_of (by kernel_rfl)
theorem ld220 {w : World} {a : Addr} {v : Value} (h : w.cell? a = some v) : Rd Try.prog (WS.at w) (sLoad 220 (.pointer (some a))) k = k v := rd_load1 one220 (fun _ hw => by rw [hw]; exact h)
theorem ldS220 {a : Addr} {v : Value} (h : ∀ w, S.S w → w.cell? a = some v) : Rd Try.prog S (sLoad 220 (.pointer (some a))) k = k v := rd_load1 one220 h
theorem ldB220 {w : World} {b off e : Nat} {cs : List Value} {v : Value} (hb : Box w b cs e) (h : cs[off]? = some v) : Rd Try.prog (WS.at w) (sLoad 220 (.pointer (some ⟨b, off, none⟩))) k = k v := ld220 ((hb.cell off).trans h)
theorem sz221 : szOf Try.prog 221 1 := szOf_of (by kernel_rfl)
theorem one221 : one Try.prog 221 := one_of (by kernel_rfl)
theorem ld221 {w : World} {a : Addr} {v : Value} (h : w.cell? a = some v) : Rd Try.prog (WS.at w) (sLoad 221 (.pointer (some a))) k = k v := rd_load1 one221 (fun _ hw => by rw [hw]; exact h)
theorem ldS221 {a : Addr} {v : Value} (h : ∀ w, S.S w → w.cell? a = some v) : Rd Try.prog S (sLoad 221 (.pointer (some a))) k = k v := rd_load1 one221 h
theorem ldB221 {w : World} {b off e : Nat} {cs : List Value} {v : Value} (hb : Box w b cs e) (h : cs[off]? = some v) : Rd Try.prog (WS.at w) (sLoad 221 (.pointer (some ⟨b, off, none⟩))) k = k v := ld221 ((hb.cell off).trans h)
theorem sz222 : szOf Try.prog 222 1 := szOf_of (by kernel_rfl)
theorem one222 : one Try.prog 222 := one_of (by kernel_rfl)
theorem ld222 {w : World} {a : Addr} {v : Value} (h : w.cell? a = some v) : Rd Try.prog (WS.at w) (sLoad 222 (.pointer (some a))) k = k v := rd_load1 one222 (fun _ hw => by rw [hw]; exact h)
theorem ldS222 {a : Addr} {v : Value} (h : ∀ w, S.S w → w.cell? a = some v) : Rd Try.prog S (sLoad 222 (.pointer (some a))) k = k v := rd_load1 one222 h
theorem ldB222 {w : World} {b off e : Nat} {cs : List Value} {v : Value} (hb : Box w b cs e) (h : cs[off]? = some v) : Rd Try.prog (WS.at w) (sLoad 222 (.pointer (some ⟨b, off, none⟩))) k = k v := ld222 ((hb.cell off).trans h)
theorem sz223 : szOf Try.prog 223 1 := szOf_of (by kernel_rfl)
theorem one223 : one Try.prog 223 := one_of (by kernel_rfl)
theorem ld223 {w : World} {a : Addr} {v : Value} (h : w.cell? a = some v) : Rd Try.prog (WS.at w) (sLoad 223 (.pointer (some a))) k = k v := rd_load1 one223 (fun _ hw => by rw [hw]; exact h)
theorem ldS223 {a : Addr} {v : Value} (h : ∀ w, S.S w → w.cell? a = some v) : Rd Try.prog S (sLoad 223 (.pointer (some a))) k = k v := rd_load1 one223 h
theorem ldB223 {w : World} {b off e : Nat} {cs : List Value} {v : Value} (hb : Box w b cs e) (h : cs[off]? = some v) : Rd Try.prog (WS.at w) (sLoad 223 (.pointer (some ⟨b, off, none⟩))) k = k v := ld223 ((hb.cell off).trans h)
theorem sz224 : szOf Try.prog 224 1 := szOf_of (by kernel_rfl)
theorem one224 : one Try.prog 224 := one_of (by kernel_rfl)
theorem ld224 {w : World} {a : Addr} {v : Value} (h : w.cell? a = some v) : Rd Try.prog (WS.at w) (sLoad 224 (.pointer (some a))) k = k v := rd_load1 one224 (fun _ hw => by rw [hw]; exact h)
theorem ldS224 {a : Addr} {v : Value} (h : ∀ w, S.S w → w.cell? a = some v) : Rd Try.prog S (sLoad 224 (.pointer (some a))) k = k v := rd_load1 one224 h
theorem ldB224 {w : World} {b off e : Nat} {cs : List Value} {v : Value} (hb : Box w b cs e) (h : cs[off]? = some v) : Rd Try.prog (WS.at w) (sLoad 224 (.pointer (some ⟨b, off, none⟩))) k = k v := ld224 ((hb.cell off).trans h)
theorem sz225 : szOf Try.prog 225 1 := szOf_of (by kernel_rfl)
theorem one225 : one Try.prog 225 := one_of (by kernel_rfl)
theorem ld225 {w : World} {a : Addr} {v : Value} (h : w.cell? a = some v) : Rd Try.prog (WS.at w) (sLoad 225 (.pointer (some a))) k = k v := rd_load1 one225 (fun _ hw => by rw [hw]; exact h)
theorem ldS225 {a : Addr} {v : Value} (h : ∀ w, S.S w → w.cell? a = some v) : Rd Try.prog S (sLoad 225 (.pointer (some a))) k = k v := rd_load1 one225 h
theorem ldB225 {w : World} {b off e : Nat} {cs : List Value} {v : Value} (hb : Box w b cs e) (h : cs[off]? = some v) : Rd Try.prog (WS.at w) (sLoad 225 (.pointer (some ⟨b, off, none⟩))) k = k v := ld225 ((hb.cell off).trans h)
theorem sz226 : szOf Try.prog 226 1 := szOf_of (by kernel_rfl)
theorem one226 : one Try.prog 226 := one_of (by kernel_rfl)
theorem ld226 {w : World} {a : Addr} {v : Value} (h : w.cell? a = some v) : Rd Try.prog (WS.at w) (sLoad 226 (.pointer (some a))) k = k v := rd_load1 one226 (fun _ hw => by rw [hw]; exact h)
theorem ldS226 {a : Addr} {v : Value} (h : ∀ w, S.S w → w.cell? a = some v) : Rd Try.prog S (sLoad 226 (.pointer (some a))) k = k v := rd_load1 one226 h
theorem ldB226 {w : World} {b off e : Nat} {cs : List Value} {v : Value} (hb : Box w b cs e) (h : cs[off]? = some v) : Rd Try.prog (WS.at w) (sLoad 226 (.pointer (some ⟨b, off, none⟩))) k = k v := ld226 ((hb.cell off).trans h)
theorem sz227 : szOf Try.prog 227 11 := szOf_of (by kernel_rfl)
theorem agg227 : agg Try.prog 227 := agg_of (by kernel_rfl)
@[go_sem] theorem fa228_0 {a : Addr} : Rd Try.prog S (sFieldAddr 228 (.pointer (some a)) 0) k = k (.pointer (some (a.add 0))) := rd_fieldAddr (fld_of (by kernel_rfl))
@[go_sem] theorem fa228_1 {a : Addr} : Rd Try.prog S (sFieldAddr 228 (.pointer (some a)) 1) k = k (.pointer (some (a.add 1))) := rd_fieldAddr (fld_of (by kernel_rfl))
@[go_sem] theorem fa228_2 {a : Addr} : Rd Try.prog S (sFieldAddr 228 (.pointer (some a)) 2) k = k (.pointer (some (a.add 2))) := rd_fieldAddr (fld_of (by kernel_rfl))
@[go_sem] theorem fa228_3 {a : Addr} : Rd Try.prog S (sFieldAddr 228 (.pointer (some a)) 3) k = k (.pointer (some (a.add 3))) := rd_fieldAddr (fld_of (by kernel_rfl))
@[go_sem] theorem fa228_4 {a : Addr} : Rd Try.prog S (sFieldAddr 228 (.pointer (some a)) 4) k = k (.pointer (some (a.add 4))) := rd_fieldAddr (fld_of (by kernel_rfl))
@[go_sem] theorem fa228_5 {a : Addr} : Rd Try.prog S (sFieldAddr 228 (.pointer (some a)) 5) k = k (.pointer (some (a.add 5))) := rd_fieldAddr (fld_of (by kernel_rfl))
@[go_sem] theorem fa228_6 {a : Addr} : Rd Try.prog S (sFieldAddr 228 (.pointer (some a)) 6) k = k (.pointer (some (a.add 6))) := rd_fieldAddr (fld_of (by kernel_rfl))
@[go_sem] theorem fa228_7 {a : Addr} : Rd Try.prog S (sFieldAddr 228 (.pointer (some a)) 7) k = k (.pointer (some (a.add 7))) := rd_fieldAddr (fld_of (by kernel_rfl))
@[go_sem] theorem fa228_8 {a : Addr} : Rd Try.prog S (sFieldAddr 228 (.pointer (some a)) 8) k = k (.pointer (some (a.add 8))) := rd_fieldAddr (fld_of (by kernel_rfl))
@[go_sem] theorem fa228_9 {a : Addr} : Rd Try.prog S (sFieldAddr 228 (.pointer (some a)) 9) k = k (.pointer (some (a.add 9))) := rd_fieldAddr (fld_of (by kernel_rfl))
@[go_sem] theorem fa228_10 {a : Addr} : Rd Try.prog S (sFieldAddr 228 (.pointer (some a)) 10) k = k (.pointer (some (a.add 10))) := rd_fieldAddr (fld_of (by kernel_rfl))
theorem sz228 : szOf Try.prog 228 11 := szOf_of (by kernel_rfl)
theorem agg228 : agg Try.prog 228 := agg_of (by kernel_rfl)
theorem sz229 : szOf Try.prog 229 1 := szOf_of (by kernel_rfl)
theorem one229 : one Try.prog 229 := one_of (by kernel_rfl)
theorem ld229 {w : World} {a : Addr} {v : Value} (h : w.cell? a = some v) : Rd Try.prog (WS.at w) (sLoad 229 (.pointer (some a))) k = k v := rd_load1 one229 (fun _ hw => by rw [hw]; exact h)
theorem ldS229 {a : Addr} {v : Value} (h : ∀ w, S.S w → w.cell? a = some v) : Rd Try.prog S (sLoad 229 (.pointer (some a))) k = k v := rd_load1 one229 h
theorem ldB229 {w : World} {b off e : Nat} {cs : List Value} {v : Value} (hb : Box w b cs e) (h : cs[off]? = some v) : Rd Try.prog (WS.at w) (sLoad 229 (.pointer (some ⟨b, off, none⟩))) k = k v := ld229 ((hb.cell off).trans h)
end
end Go.Proofs.Ytiohaeckagjebaa

/- Ba: bodies of functions as terms of the frame calculus, printed by shgen.py of this repository. -/
set_option linter.unusedVariables false
set_option maxRecDepth 100000
namespace Go.Proofs.Ytiohaeckagjebaa
open Go Go.Sh

/-! loop.example/g00758/laws.FnExactPumpWord -/
def pl3 : Plans := fun _ => ⟨false, [], .nil⟩
def S3 (v0 v1 v2 : Value) (k : Value → World → Prop) (w : World) : Prop :=
 Rd Try.prog (WS.at w) (sBuiltin .len #[22] 3 [false] [v0]) fun t1 =>
 Rd Try.prog (WS.at w) (sBin .gtr 3 true t1 (.int .i64 1048576)) fun t2 =>
 CondK t2
  (k (.bool true) w)
  (Rd Try.prog (WS.at w) (sBuiltin .len #[22] 3 [false] [v1]) fun t3 =>
  Rd Try.prog (WS.at w) (sBin .gtr 3 true t3 (.int .i64 1048576)) fun t4 =>
  CondK t4
   (k (.bool true) w)
   (CallK Try.prog 24 [v0] (fun t5 w6 =>
   CallK Try.prog 24 [v1] (fun t7 w8 =>
   CallK Try.prog 23 [t5, t7, v2] (fun t9 w10 =>
   Rd Try.prog (WS.at w10) (sExtract t9 0) fun t11 =>
   Rd Try.prog (WS.at w10) (sExtract t9 1) fun t12 =>
   CallK Try.prog 24 [v0] (fun t13 w14 =>
   CallK Try.prog 24 [v1] (fun t15 w16 =>
   CallK Try.prog 25 [t13, t15, v2] (fun t17 w18 =>
   Rd Try.prog (WS.at w18) (sExtract t17 0) fun t19 =>
   Rd Try.prog (WS.at w18) (sExtract t17 1) fun t20 =>
   CallK Try.prog 26 [t19, t11] (fun t21 w22 =>
   Rd Try.prog (WS.at w22) (sUn .not t21) fun t23 =>
   GuardK t23 false (fun k w' => k t20 w') (fun t24 w25 =>
   GuardK t23 false (fun k w' => k t12 w') (fun t26 w27 =>
   GuardK t23 false (fun k w' => Rd Try.prog (WS.at w27) (sBin .neq 4 false t24 t26) fun v => k v w') (fun t28 w29 =>
   Rd Try.prog (WS.at w29) (sPick t23 (.bool true) t28) fun t30 =>
   CondK t30
    (k (.bool false) w29)
    (CallK Try.prog 24 [v0] (fun t31 w32 =>
    CallK Try.prog 26 [t13, t31] (fun t33 w34 =>
    Rd Try.prog (WS.at w34) (sUn .not t33) fun t35 =>
    CondK t35
     (k (.bool false) w34)
     (CallK Try.prog 24 [v1] (fun t36 w37 =>
     CallK Try.prog 26 [t15, t36] (fun t38 w39 =>
     Rd Try.prog (WS.at w39) (sUn .not t38) fun t40 =>
     CondK t40
      (k (.bool false) w39)
      (CallK Try.prog 27 [t13, (.int .i64 1)] (fun t41 w42 =>
      CallK Try.prog 27 [t15, t41] (fun t43 w44 =>
      Rd Try.prog (WS.at w44) (sBin .lss 3 true t43 (.int .i64 0)) fun t45 =>
      GuardK t45 false (fun k w' => k t19 w') (fun t46 w47 =>
      GuardK t45 false (fun k w' => k t11 w') (fun t48 w49 =>
      GuardK t45 false (fun k w' => CallK Try.prog 26 [t46, t48] k w') (fun t50 w51 =>
      GuardK t45 false (fun k w' => Rd Try.prog (WS.at w51) (sUn .not t50) fun v => k v w') (fun t52 w53 =>
      Rd Try.prog (WS.at w53) (sPick t45 (.bool true) t52) fun t54 =>
      GuardK t54 false (fun k w' => k t20 w') (fun t55 w56 =>
      GuardK t54 false (fun k w' => k t12 w') (fun t57 w58 =>
      GuardK t54 false (fun k w' => Rd Try.prog (WS.at w58) (sBin .neq 4 false t55 t57) fun v => k v w') (fun t59 w60 =>
      Rd Try.prog (WS.at w60) (sPick t54 (.bool true) t59) fun t61 =>
      CondK t61
       (k (.bool false) w60)
       (CallK Try.prog 27 [t19, (.int .i64 1)] (fun t62 w63 =>
       CallK Try.prog 28 [t19, (.int .i64 1)] (fun t64 w65 =>
       Rd Try.prog (WS.at w65) (sBin .lss 3 true t64 (.int .i64 0)) fun t66 =>
       CondK t66
        (k (.bool false) w65)
        (Rd Try.prog (WS.at w65) (sBin .neq 3 false t64 t62) fun t67 =>
        CondK t67
         (k (.bool false) w65)
         (CallK Try.prog 24 [v0] (fun t68 w69 =>
         CallK Try.prog 24 [v1] (fun t70 w71 =>
         CallK Try.prog 25 [t68, t70, v2] (fun t72 w73 =>
         Rd Try.prog (WS.at w73) (sExtract t72 0) fun t74 =>
         Rd Try.prog (WS.at w73) (sExtract t72 1) fun t75 =>
         CallK Try.prog 26 [t74, t11] (fun t76 w77 =>
         Rd Try.prog (WS.at w77) (sUn .not t76) fun t78 =>
         GuardK t78 false (fun k w' => k t75 w') (fun t79 w80 =>
         GuardK t78 false (fun k w' => k t12 w') (fun t81 w82 =>
         GuardK t78 false (fun k w' => Rd Try.prog (WS.at w82) (sBin .neq 4 false t79 t81) fun v => k v w') (fun t83 w84 =>
         Rd Try.prog (WS.at w84) (sPick t78 (.bool true) t83) fun t85 =>
         CondK t85
          (k (.bool false) w84)
          (CallK Try.prog 28 [t19, (.int .i64 1)] (fun t86 w87 =>
          Rd Try.prog (WS.at w87) (sBin .lss 3 true t86 (.int .i64 0)) fun t88 =>
          CondK t88
           (k (.bool false) w87)
           (Rd Try.prog (WS.at w87) (sBin .neq 3 false t86 t62) fun t89 =>
           CondK t89
            (k (.bool false) w87)
            (k (.bool true) w87))) w84)) w82) w80) w77) w73) w71) w69) w65))) w63) w60)) w58) w56) w53) w51) w49) w47) w44) w42) w39)) w37) w34)) w32) w29)) w27) w25) w22) w18) w16) w14) w10) w8) w6) w))
theorem body3 : Try.f3.body = some (bodyOf Try.f3) := by kernel_rfl
theorem same3 (v0 v1 v2 : Value) (k : Value → World → Prop) (w : World) : wpF Try.prog pl3 (bodyOf Try.f3) (bodyQ Try.prog Try.f3.results.toList k) (initF [v0, v1, v2]) w = S3 v0 v1 v2 k w := by kernel_rfl
theorem enter3 {v0 v1 v2 : Value} {k : Value → World → Prop} {w : World} (h : S3 v0 v1 v2 k w) : CallK Try.prog 3 [v0, v1, v2] k w :=
  call_of_wpF (pl := pl3) mixed Try.func3 body3 (by kernel_rfl) (of_decide_eq_true (by kernel_rfl)) (by kernel_rfl) (by kernel_rfl) (same3 v0 v1 v2 k w ▸ h)

/-! loop.example/g00758/spec.PumpWord -/
def pl23 : Plans := fun _ => ⟨false, [], .nil⟩
def S23 (v0 v1 v2 : Value) (k : Value → World → Prop) (w : World) : Prop :=
 Rd Try.prog (WS.at w) (sBuiltin .len #[22] 3 [false] [v0]) fun t1 =>
 Rd Try.prog (WS.at w) (sBin .gtr 3 true t1 (.int .i64 60)) fun t2 =>
 GuardK t2 false (fun k w' => k v0 w') (fun t3 w4 =>
 GuardK t2 false (fun k w' => CallK Try.prog 75 [t3, (.int .i64 0), (.int .i64 1000000)] k w') (fun t5 w6 =>
 GuardK t2 false (fun k w' => Rd Try.prog (WS.at w6) (sUn .not t5) fun v => k v w') (fun t7 w8 =>
 Rd Try.prog (WS.at w8) (sPick t2 (.bool true) t7) fun t9 =>
 GuardK t9 false (fun k w' => k v1 w') (fun t10 w11 =>
 GuardK t9 false (fun k w' => k v0 w') (fun t12 w13 =>
 GuardK t9 false (fun k w' => Rd Try.prog (WS.at w13) (sBuiltin .len #[22] 3 [false] [t12]) fun v => k v w') (fun t14 w15 =>
 GuardK t9 false (fun k w' => CallK Try.prog 76 [t10, t14] k w') (fun t16 w17 =>
 GuardK t9 false (fun k w' => Rd Try.prog (WS.at w17) (sUn .not t16) fun v => k v w') (fun t18 w19 =>
 Rd Try.prog (WS.at w19) (sPick t9 (.bool true) t18) fun t20 =>
 GuardK t20 false (fun k w' => k v2 w') (fun t21 w22 =>
 GuardK t20 false (fun k w' => CallK Try.prog 77 [t21, (.int .i64 0), (.int .i64 4)] k w') (fun t23 w24 =>
 GuardK t20 false (fun k w' => Rd Try.prog (WS.at w24) (sUn .not t23) fun v => k v w') (fun t25 w26 =>
 Rd Try.prog (WS.at w26) (sPick t20 (.bool true) t25) fun t27 =>
 CondK t27
  (k (.tuple #[(.slice none 0 0), (.bool false)]) w26)
  (CallK Try.prog 78 [v0, v1, v2] (fun t28 w29 =>
  Rd Try.prog (WS.at w29) (sBuiltin .len #[22] 3 [false] [t28]) fun t30 =>
  Rd Try.prog (WS.at w29) (sBin .gtr 3 true t30 (.int .i64 60)) fun t31 =>
  CondK t31
   (k (.tuple #[(.slice none 0 0), (.bool false)]) w29)
   (k (.tuple #[t28, (.bool true)]) w29)) w26)) w24) w22) w19) w17) w15) w13) w11) w8) w6) w4) w
theorem body23 : Try.f23.body = some (bodyOf Try.f23) := by kernel_rfl
theorem same23 (v0 v1 v2 : Value) (k : Value → World → Prop) (w : World) : wpF Try.prog pl23 (bodyOf Try.f23) (bodyQ Try.prog Try.f23.results.toList k) (initF [v0, v1, v2]) w = S23 v0 v1 v2 k w := by kernel_rfl
theorem enter23 {v0 v1 v2 : Value} {k : Value → World → Prop} {w : World} (h : S23 v0 v1 v2 k w) : CallK Try.prog 23 [v0, v1, v2] k w :=
  call_of_wpF (pl := pl23) mixed Try.func23 body23 (by kernel_rfl) (of_decide_eq_true (by kernel_rfl)) (by kernel_rfl) (by kernel_rfl) (same23 v0 v1 v2 k w ▸ h)

/-! loop.example/g00758/laws.toIntS -/
def pl24 : Plans := fun _ => ⟨false, [], .nil⟩
def S24 (v0 : Value) (k : Value → World → Prop) (w : World) : Prop :=
 Rd Try.prog (WS.at w) (sBuiltin .len #[22] 3 [false] [v0]) fun t1 =>
 Do Try.prog (sMakeSlice 22 t1 t1) (fun t2 w3 =>
 LoopF [8, 9, 10, 11, 14, 15, 16, 17, 18, 19, 20, 12, 13, 4] (fun Q4 f5 w6 =>
  Rd Try.prog (WS.at w6) (sBuiltin .len #[22] 3 [false] [(f5 0)]) fun t7 =>
  Rd Try.prog (WS.at w6) (sBin .lss 3 false (f5 4) t7) fun t8 =>
  CondK t8
   (Rd Try.prog (WS.at w6) (sIndexAddr 22 (f5 0) (f5 4)) fun t9 =>
   Rd Try.prog (WS.at w6) (sLoad 3 t9) fun t10 =>
   Rd Try.prog (WS.at w6) (sIndexAddr 22 (f5 3) (f5 4)) fun t11 =>
   Do Try.prog (sStore 3 t11 t10) (fun _ w12 =>
   Rd Try.prog (WS.at w12) (sBin .add 3 true (f5 4) (.int .i64 1)) fun t13 =>
   Q4 .normal (F.upd (F.upd (F.upd (F.upd (F.upd (F.upd (F.upd (F.upd (F.upd (F.upd (F.upd (F.upd (F.upd (F.upd f5 8 (f5 4)) 9 (f5 0)) 10 t7) 11 t8) 14 (f5 3)) 15 (f5 4)) 16 (f5 0)) 17 (f5 4)) 18 t9) 19 t10) 20 t11) 12 (f5 4)) 13 t13) 4 t13) w12) w6)
   (Q4 (.exit 0) (F.upd (F.upd (F.upd (F.upd f5 8 (f5 4)) 9 (f5 0)) 10 t7) 11 t8) w6))
  (blockQ 0 (seqQ (fun f14 w15 =>
 k (f14 3) w15) (bodyQ Try.prog [.tmp 2] k)))
  (F.upd (F.upd (F.upd (F.upd (F.upd (F.upd (initF [v0]) 2 (.slice none 0 0)) 5 v0) 6 t1) 7 t2) 3 t2) 4 (.int .i64 0)) w3) w
theorem body24 : Try.f24.body = some (bodyOf Try.f24) := by kernel_rfl
theorem same24 (v0 : Value) (k : Value → World → Prop) (w : World) : wpF Try.prog pl24 (bodyOf Try.f24) (bodyQ Try.prog Try.f24.results.toList k) (initF [v0]) w = S24 v0 k w := by kernel_rfl
theorem enter24 {v0 : Value} {k : Value → World → Prop} {w : World} (h : S24 v0 k w) : CallK Try.prog 24 [v0] k w :=
  call_of_wpF (pl := pl24) mixed Try.func24 body24 (by kernel_rfl) (of_decide_eq_true (by kernel_rfl)) (by kernel_rfl) (by kernel_rfl) (same24 v0 k w ▸ h)

/-! loop.example/g00758/impl.PumpWord -/
def pl25 : Plans := fun _ => ⟨false, [], .nil⟩
def S25 (v0 v1 v2 : Value) (k : Value → World → Prop) (w : World) : Prop :=
 CallK Try.prog 79 [v0, v1, v2] (fun t1 w2 =>
 Rd Try.prog (WS.at w2) (sExtract t1 0) fun t3 =>
 Rd Try.prog (WS.at w2) (sExtract t1 1) fun t4 =>
 k (.tuple #[t3, t4]) w2) w
theorem body25 : Try.f25.body = some (bodyOf Try.f25) := by kernel_rfl
theorem same25 (v0 v1 v2 : Value) (k : Value → World → Prop) (w : World) : wpF Try.prog pl25 (bodyOf Try.f25) (bodyQ Try.prog Try.f25.results.toList k) (initF [v0, v1, v2]) w = S25 v0 v1 v2 k w := by kernel_rfl
theorem enter25 {v0 v1 v2 : Value} {k : Value → World → Prop} {w : World} (h : S25 v0 v1 v2 k w) : CallK Try.prog 25 [v0, v1, v2] k w :=
  call_of_wpF (pl := pl25) mixed Try.func25 body25 (by kernel_rfl) (of_decide_eq_true (by kernel_rfl)) (by kernel_rfl) (by kernel_rfl) (same25 v0 v1 v2 k w ▸ h)

/-! loop.example/g00758/laws.eqIntS -/
def pl26 : Plans := fun i => match i with
  | 6 => ⟨false, [], .step 0 .any (.step 1 .any (.step 2 .any (.step 3 .held (.step 4 .any (.step 5 .any (.step 6 .any (.step 7 .held (.step 8 .any (.nil)))))))))⟩
  | _ => ⟨false, [], .nil⟩
def S26 (v0 v1 : Value) (k : Value → World → Prop) (w : World) : Prop :=
 Rd Try.prog (WS.at w) (sBuiltin .len #[22] 3 [false] [v0]) fun t1 =>
 Rd Try.prog (WS.at w) (sBuiltin .len #[22] 3 [false] [v1]) fun t2 =>
 Rd Try.prog (WS.at w) (sBin .neq 3 false t1 t2) fun t3 =>
 CondK t3
  (k (.bool false) w)
  (LoopF [11, 12, 13, 14, 17, 18, 19, 20, 21, 22, 23, 24, 25, 4, 15, 16, 5] (fun Q4 f5 w6 =>
   Rd Try.prog (WS.at w6) (sBuiltin .len #[22] 3 [false] [(f5 0)]) fun t7 =>
   Rd Try.prog (WS.at w6) (sBin .lss 3 false (f5 5) t7) fun t8 =>
   CondK t8
    (Rd Try.prog WS.any (sIndexAddr 22 (f5 0) (f5 5)) fun t9 =>
    Rd Try.prog (WS.at w6.drew) (sLoad 3 t9) fun t10 =>
    Rd Try.prog WS.any (sIndexAddr 22 (f5 1) (f5 5)) fun t11 =>
    Rd Try.prog (WS.at w6.drew) (sLoad 3 t11) fun t12 =>
    Rd Try.prog WS.any (sBin .neq 3 false t10 t12) fun t13 =>
    CondK t13
     (Q4 .ret (F.upd (F.upd (F.upd (F.upd (F.upd (F.upd (F.upd (F.upd (F.upd (F.upd (F.upd (F.upd (F.upd (F.upd f5 11 (f5 5)) 12 (f5 0)) 13 t7) 14 t8) 17 (f5 0)) 18 (f5 5)) 19 t9) 20 t10) 21 (f5 1)) 22 (f5 5)) 23 t11) 24 t12) 25 t13) 4 (.bool false)) w6.drew)
     (Rd Try.prog (WS.at w6.drew) (sBin .add 3 true (f5 5) (.int .i64 1)) fun t14 =>
     Q4 .normal (F.upd (F.upd (F.upd (F.upd (F.upd (F.upd (F.upd (F.upd (F.upd (F.upd (F.upd (F.upd (F.upd (F.upd (F.upd (F.upd f5 11 (f5 5)) 12 (f5 0)) 13 t7) 14 t8) 17 (f5 0)) 18 (f5 5)) 19 t9) 20 t10) 21 (f5 1)) 22 (f5 5)) 23 t11) 24 t12) 25 t13) 15 (f5 5)) 16 t14) 5 t14) w6.drew))
    (Q4 (.exit 0) (F.upd (F.upd (F.upd (F.upd f5 11 (f5 5)) 12 (f5 0)) 13 t7) 14 t8) w6))
   (blockQ 0 (seqQ (fun f15 w16 =>
  k (.bool true) w16) (bodyQ Try.prog [.tmp 4] k)))
   (F.upd (F.upd (F.upd (F.upd (F.upd (F.upd (F.upd (initF [v0, v1]) 4 (.bool false)) 6 v0) 7 t1) 8 v1) 9 t2) 10 t3) 5 (.int .i64 0)) w)
theorem body26 : Try.f26.body = some (bodyOf Try.f26) := by kernel_rfl
theorem same26 (v0 v1 : Value) (k : Value → World → Prop) (w : World) : wpF Try.prog pl26 (bodyOf Try.f26) (bodyQ Try.prog Try.f26.results.toList k) (initF [v0, v1]) w = S26 v0 v1 k w := by kernel_rfl
theorem enter26 {v0 v1 : Value} {k : Value → World → Prop} {w : World} (h : S26 v0 v1 k w) : CallK Try.prog 26 [v0, v1] k w :=
  call_of_wpF (pl := pl26) mixed Try.func26 body26 (by kernel_rfl) (of_decide_eq_true (by kernel_rfl)) (by kernel_rfl) (by kernel_rfl) (same26 v0 v1 k w ▸ h)

/-! loop.example/g00758/laws.markIntS -/
def pl27 : Plans := fun _ => ⟨false, [], .nil⟩
def S27 (v0 v1 : Value) (k : Value → World → Prop) (w : World) : Prop :=
 LoopF [6, 7, 8, 9, 12, 13, 14, 15, 16, 17, 1, 10, 11, 5] (fun Q1 f2 w3 =>
  Rd Try.prog (WS.at w3) (sBuiltin .len #[22] 3 [false] [(f2 0)]) fun t4 =>
  Rd Try.prog (WS.at w3) (sBin .lss 3 false (f2 5) t4) fun t5 =>
  CondK t5
   (Rd Try.prog (WS.at w3) (sIndexAddr 22 (f2 0) (f2 5)) fun t6 =>
   Do Try.prog (sStore 3 t6 (f2 1)) (fun _ w7 =>
   Rd Try.prog (WS.at w7) (sBin .add 3 true (f2 1) (.int .i64 1)) fun t8 =>
   Rd Try.prog (WS.at w7) (sBin .add 3 true (f2 5) (.int .i64 1)) fun t9 =>
   Q1 .normal (F.upd (F.upd (F.upd (F.upd (F.upd (F.upd (F.upd (F.upd (F.upd (F.upd (F.upd (F.upd (F.upd (F.upd f2 6 (f2 5)) 7 (f2 0)) 8 t4) 9 t5) 12 (f2 0)) 13 (f2 5)) 14 (f2 1)) 15 t6) 16 (f2 1)) 17 t8) 1 t8) 10 (f2 5)) 11 t9) 5 t9) w7) w3)
   (Q1 (.exit 0) (F.upd (F.upd (F.upd (F.upd f2 6 (f2 5)) 7 (f2 0)) 8 t4) 9 t5) w3))
  (blockQ 0 (seqQ (fun f10 w11 =>
 k (f10 1) w11) (bodyQ Try.prog [.tmp 4] k)))
  (F.upd (F.upd (initF [v0, v1]) 4 (.int .i64 0)) 5 (.int .i64 0)) w
theorem body27 : Try.f27.body = some (bodyOf Try.f27) := by kernel_rfl
theorem same27 (v0 v1 : Value) (k : Value → World → Prop) (w : World) : wpF Try.prog pl27 (bodyOf Try.f27) (bodyQ Try.prog Try.f27.results.toList k) (initF [v0, v1]) w = S27 v0 v1 k w := by kernel_rfl
theorem enter27 {v0 v1 : Value} {k : Value → World → Prop} {w : World} (h : S27 v0 v1 k w) : CallK Try.prog 27 [v0, v1] k w :=
  call_of_wpF (pl := pl27) mixed Try.func27 body27 (by kernel_rfl) (of_decide_eq_true (by kernel_rfl)) (by kernel_rfl) (by kernel_rfl) (same27 v0 v1 k w ▸ h)

/-! loop.example/g00758/laws.heldIntS -/
def pl28 : Plans := fun _ => ⟨false, [], .nil⟩
def S28 (v0 v1 : Value) (k : Value → World → Prop) (w : World) : Prop :=
 LoopF [6, 7, 8, 9, 12, 13, 14, 15, 16, 17, 4, 18, 19, 1, 10, 11, 5] (fun Q1 f2 w3 =>
  Rd Try.prog (WS.at w3) (sBuiltin .len #[22] 3 [false] [(f2 0)]) fun t4 =>
  Rd Try.prog (WS.at w3) (sBin .lss 3 false (f2 5) t4) fun t5 =>
  CondK t5
   (Rd Try.prog (WS.at w3) (sIndexAddr 22 (f2 0) (f2 5)) fun t6 =>
   Rd Try.prog (WS.at w3) (sLoad 3 t6) fun t7 =>
   Rd Try.prog (WS.at w3) (sBin .neq 3 false t7 (f2 1)) fun t8 =>
   CondK t8
    (Q1 .ret (F.upd (F.upd (F.upd (F.upd (F.upd (F.upd (F.upd (F.upd (F.upd (F.upd (F.upd f2 6 (f2 5)) 7 (f2 0)) 8 t4) 9 t5) 12 (f2 0)) 13 (f2 5)) 14 t6) 15 t7) 16 (f2 1)) 17 t8) 4 (.int .i64 (-1))) w3)
    (Rd Try.prog (WS.at w3) (sBin .add 3 true (f2 1) (.int .i64 1)) fun t9 =>
    Rd Try.prog (WS.at w3) (sBin .add 3 true (f2 5) (.int .i64 1)) fun t10 =>
    Q1 .normal (F.upd (F.upd (F.upd (F.upd (F.upd (F.upd (F.upd (F.upd (F.upd (F.upd (F.upd (F.upd (F.upd (F.upd (F.upd (F.upd f2 6 (f2 5)) 7 (f2 0)) 8 t4) 9 t5) 12 (f2 0)) 13 (f2 5)) 14 t6) 15 t7) 16 (f2 1)) 17 t8) 18 (f2 1)) 19 t9) 1 t9) 10 (f2 5)) 11 t10) 5 t10) w3))
   (Q1 (.exit 0) (F.upd (F.upd (F.upd (F.upd f2 6 (f2 5)) 7 (f2 0)) 8 t4) 9 t5) w3))
  (blockQ 0 (seqQ (fun f11 w12 =>
 k (f11 1) w12) (bodyQ Try.prog [.tmp 4] k)))
  (F.upd (F.upd (initF [v0, v1]) 4 (.int .i64 0)) 5 (.int .i64 0)) w
theorem body28 : Try.f28.body = some (bodyOf Try.f28) := by kernel_rfl
theorem same28 (v0 v1 : Value) (k : Value → World → Prop) (w : World) : wpF Try.prog pl28 (bodyOf Try.f28) (bodyQ Try.prog Try.f28.results.toList k) (initF [v0, v1]) w = S28 v0 v1 k w := by kernel_rfl
theorem enter28 {v0 v1 : Value} {k : Value → World → Prop} {w : World} (h : S28 v0 v1 k w) : CallK Try.prog 28 [v0, v1] k w :=
  call_of_wpF (pl := pl28) mixed Try.func28 body28 (by kernel_rfl) (of_decide_eq_true (by kernel_rfl)) (by kernel_rfl) (by kernel_rfl) (same28 v0 v1 k w ▸ h)

/-! loop.example/g00758/spec.l1All -/
def pl75 : Plans := fun _ => ⟨false, [], .nil⟩
def S75 (v0 v1 v2 : Value) (k : Value → World → Prop) (w : World) : Prop :=
 Rd Try.prog (WS.at w) (sBuiltin .len #[22] 3 [false] [v0]) fun t1 =>
 LoopF [12, 13, 14, 8, 15, 16, 17, 18, 19, 6, 20, 11] (fun Q2 f3 w4 =>
  Rd Try.prog (WS.at w4) (sBin .lss 3 false (f3 11) (f3 10)) fun t5 =>
  CondK t5
   (Rd Try.prog (WS.at w4) (sIndexAddr 22 (f3 9) (f3 11)) fun t6 =>
   Rd Try.prog (WS.at w4) (sLoad 3 t6) fun t7 =>
   CallK Try.prog 77 [t7, (f3 1), (f3 2)] (fun t8 w9 =>
   Rd Try.prog (WS.at w9) (sUn .not t8) fun t10 =>
   CondK t10
    (Q2 .ret (F.upd (F.upd (F.upd (F.upd (F.upd (F.upd (F.upd (F.upd (F.upd (F.upd f3 12 t5) 13 t6) 14 t7) 8 t7) 15 t7) 16 (f3 1)) 17 (f3 2)) 18 t8) 19 t10) 6 (.bool false)) w9)
    (Rd Try.prog (WS.at w9) (sBin .add 3 true (f3 11) (.int .i64 1)) fun t11 =>
    Q2 .normal (F.upd (F.upd (F.upd (F.upd (F.upd (F.upd (F.upd (F.upd (F.upd (F.upd (F.upd f3 12 t5) 13 t6) 14 t7) 8 t7) 15 t7) 16 (f3 1)) 17 (f3 2)) 18 t8) 19 t10) 20 t11) 11 t11) w9)) w4)
   (Q2 (.exit 0) (F.upd f3 12 t5) w4))
  (blockQ 0 (seqQ (fun f12 w13 =>
 k (.bool true) w13) (bodyQ Try.prog [.tmp 6] k)))
  (F.upd (F.upd (F.upd (F.upd (initF [v0, v1, v2]) 6 (.bool false)) 9 v0) 10 t1) 11 (.int .i64 0)) w
theorem body75 : Try.f75.body = some (bodyOf Try.f75) := by kernel_rfl
theorem same75 (v0 v1 v2 : Value) (k : Value → World → Prop) (w : World) : wpF Try.prog pl75 (bodyOf Try.f75) (bodyQ Try.prog Try.f75.results.toList k) (initF [v0, v1, v2]) w = S75 v0 v1 v2 k w := by kernel_rfl
theorem enter75 {v0 v1 v2 : Value} {k : Value → World → Prop} {w : World} (h : S75 v0 v1 v2 k w) : CallK Try.prog 75 [v0, v1, v2] k w :=
  call_of_wpF (pl := pl75) mixed Try.func75 body75 (by kernel_rfl) (of_decide_eq_true (by kernel_rfl)) (by kernel_rfl) (by kernel_rfl) (same75 v0 v1 v2 k w ▸ h)

/-! loop.example/g00758/spec.l18Cuts -/
def pl76 : Plans := fun i => match i with
  | 3 => ⟨false, [], .step 0 .any (.step 1 .any (.step 2 .held (.step 3 .any (.step 4 .any (.step 5 .held (.step 6 .any (.step 7 .any (.step 8 .any (.step 9 .any (.step 10 .held (.step 11 .any (.step 12 .any (.step 13 .held (.step 14 .any (.step 15 .any (.step 16 .any (.step 17 .any (.step 18 .any (.step 19 .held (.step 20 .any (.step 21 .any (.step 22 .held (.step 23 .any (.step 24 .any (.step 25 .any (.nil))))))))))))))))))))))))))⟩
  | _ => ⟨false, [], .nil⟩
def S76 (v0 v1 : Value) (k : Value → World → Prop) (w : World) : Prop :=
 Rd Try.prog (WS.at w) (sBuiltin .len #[22] 3 [false] [v0]) fun t1 =>
 Rd Try.prog (WS.at w) (sBin .neq 3 true t1 (.int .i64 4)) fun t2 =>
 GuardK t2 false (fun k w' => k v0 w') (fun t3 w4 =>
 GuardK t2 false (fun k w' => k v1 w') (fun t5 w6 =>
 GuardK t2 false (fun k w' => CallK Try.prog 75 [t3, (.int .i64 0), t5] k w') (fun t7 w8 =>
 GuardK t2 false (fun k w' => Rd Try.prog (WS.at w8) (sUn .not t7) fun v => k v w') (fun t9 w10 =>
 Rd Try.prog (WS.at w10) (sPick t2 (.bool true) t9) fun t11 =>
 CondK t11
  (k (.bool false) w10)
  (Rd Try.prog WS.any (sIndexAddr 22 v0 (.int .i64 0)) fun t12 =>
  Rd Try.prog (WS.at w10.drew) (sLoad 3 t12) fun t13 =>
  Rd Try.prog WS.any (sIndexAddr 22 v0 (.int .i64 1)) fun t14 =>
  Rd Try.prog (WS.at w10.drew) (sLoad 3 t14) fun t15 =>
  Rd Try.prog WS.any (sBin .leq 3 false t13 t15) fun t16 =>
  GuardK t16 true (fun k w' => k v0 w') (fun t17 w18 =>
  GuardK t16 true (fun k w' => Rd Try.prog WS.any (sIndexAddr 22 t17 (.int .i64 1)) fun v => k v w') (fun t19 w20 =>
  GuardK t16 true (fun k w' => Rd Try.prog (WS.at w10.drew) (sLoad 3 t19) fun v => k v w') (fun t21 w22 =>
  GuardK t16 true (fun k w' => k v0 w') (fun t23 w24 =>
  GuardK t16 true (fun k w' => Rd Try.prog WS.any (sIndexAddr 22 t23 (.int .i64 2)) fun v => k v w') (fun t25 w26 =>
  GuardK t16 true (fun k w' => Rd Try.prog (WS.at w10.drew) (sLoad 3 t25) fun v => k v w') (fun t27 w28 =>
  GuardK t16 true (fun k w' => Rd Try.prog WS.any (sBin .leq 3 false t21 t27) fun v => k v w') (fun t29 w30 =>
  Rd Try.prog WS.any (sPick t16 t29 (.bool false)) fun t31 =>
  GuardK t31 true (fun k w' => k v0 w') (fun t32 w33 =>
  GuardK t31 true (fun k w' => Rd Try.prog WS.any (sIndexAddr 22 t32 (.int .i64 2)) fun v => k v w') (fun t34 w35 =>
  GuardK t31 true (fun k w' => Rd Try.prog (WS.at w10.drew) (sLoad 3 t34) fun v => k v w') (fun t36 w37 =>
  GuardK t31 true (fun k w' => k v0 w') (fun t38 w39 =>
  GuardK t31 true (fun k w' => Rd Try.prog WS.any (sIndexAddr 22 t38 (.int .i64 3)) fun v => k v w') (fun t40 w41 =>
  GuardK t31 true (fun k w' => Rd Try.prog (WS.at w10.drew) (sLoad 3 t40) fun v => k v w') (fun t42 w43 =>
  GuardK t31 true (fun k w' => Rd Try.prog WS.any (sBin .leq 3 false t36 t42) fun v => k v w') (fun t44 w45 =>
  Rd Try.prog WS.any (sPick t31 t44 (.bool false)) fun t46 =>
  k t46 w45) w43) w41) w39) w37) w35) w33) w30) w28) w26) w24) w22) w20) w18) w10.drew)) w8) w6) w4) w
theorem body76 : Try.f76.body = some (bodyOf Try.f76) := by kernel_rfl
theorem same76 (v0 v1 : Value) (k : Value → World → Prop) (w : World) : wpF Try.prog pl76 (bodyOf Try.f76) (bodyQ Try.prog Try.f76.results.toList k) (initF [v0, v1]) w = S76 v0 v1 k w := by kernel_rfl
theorem enter76 {v0 v1 : Value} {k : Value → World → Prop} {w : World} (h : S76 v0 v1 k w) : CallK Try.prog 76 [v0, v1] k w :=
  call_of_wpF (pl := pl76) mixed Try.func76 body76 (by kernel_rfl) (of_decide_eq_true (by kernel_rfl)) (by kernel_rfl) (by kernel_rfl) (same76 v0 v1 k w ▸ h)

/-! loop.example/g00758/spec.l1In -/
def pl77 : Plans := fun _ => ⟨false, [], .nil⟩
def S77 (v0 v1 v2 : Value) (k : Value → World → Prop) (w : World) : Prop :=
 Rd Try.prog (WS.at w) (sBin .geq 3 false v0 v1) fun t1 =>
 GuardK t1 true (fun k w' => k v0 w') (fun t2 w3 =>
 GuardK t1 true (fun k w' => k v2 w') (fun t4 w5 =>
 GuardK t1 true (fun k w' => Rd Try.prog (WS.at w5) (sBin .leq 3 false t2 t4) fun v => k v w') (fun t6 w7 =>
 Rd Try.prog (WS.at w7) (sPick t1 t6 (.bool false)) fun t8 =>
 k t8 w7) w5) w3) w
theorem body77 : Try.f77.body = some (bodyOf Try.f77) := by kernel_rfl
theorem same77 (v0 v1 v2 : Value) (k : Value → World → Prop) (w : World) : wpF Try.prog pl77 (bodyOf Try.f77) (bodyQ Try.prog Try.f77.results.toList k) (initF [v0, v1, v2]) w = S77 v0 v1 v2 k w := by kernel_rfl
theorem enter77 {v0 v1 v2 : Value} {k : Value → World → Prop} {w : World} (h : S77 v0 v1 v2 k w) : CallK Try.prog 77 [v0, v1, v2] k w :=
  call_of_wpF (pl := pl77) mixed Try.func77 body77 (by kernel_rfl) (of_decide_eq_true (by kernel_rfl)) (by kernel_rfl) (by kernel_rfl) (same77 v0 v1 v2 k w ▸ h)

/-! loop.example/g00758/spec.l18Word -/
def pl78 : Plans := fun i => match i with
  | 5 => ⟨false, [9], .step 0 .any (.step 1 .any (.step 2 .any (.step 3 .any (.step 4 .held (.step 5 .any (.step 6 .any (.step 7 .held (.step 8 .any (.step 9 .last (.step 10 .any (.nil)))))))))))⟩
  | 6 => ⟨false, [9], .step 0 .any (.step 1 .any (.step 2 .any (.step 3 .any (.step 4 .held (.step 5 .any (.step 6 .any (.step 7 .held (.step 8 .any (.step 9 .last (.step 10 .any (.nil)))))))))))⟩
  | 10 => ⟨false, [9], .step 0 .any (.step 1 .any (.step 2 .any (.step 3 .any (.step 4 .held (.step 5 .any (.step 6 .any (.step 7 .held (.step 8 .any (.step 9 .last (.step 10 .any (.nil)))))))))))⟩
  | _ => ⟨false, [], .nil⟩
def S78 (v0 v1 v2 : Value) (k : Value → World → Prop) (w : World) : Prop :=
 Rd Try.prog (WS.at w) (sIndexAddr 22 v1 (.int .i64 0)) fun t1 =>
 Rd Try.prog (WS.at w) (sLoad 3 t1) fun t2 =>
 Rd Try.prog (WS.at w) (sSlice 22 v0 none (some t2) none) fun t3 =>
 CallK Try.prog 116 [t3] (fun t4 w5 =>
 LoopF [16, 17, 18, 21, 22, 23, 24, 25, 26, 27, 28, 29, 30, 7, 19, 20, 8] (fun Q6 f7 w8 =>
  Rd Try.prog (WS.at w8) (sBin .lss 3 false (f7 8) (f7 2)) fun t9 =>
  CondK t9
   (Rd Try.prog WS.any (sIndexAddr 22 (f7 1) (.int .i64 0)) fun t10 =>
   Rd Try.prog (WS.at w8.drew) (sLoad 3 t10) fun t11 =>
   Rd Try.prog WS.any (sIndexAddr 22 (f7 1) (.int .i64 1)) fun t12 =>
   Rd Try.prog (WS.at w8.drew) (sLoad 3 t12) fun t13 =>
   Rd Try.prog WS.any (sSlice 22 (f7 0) (some t11) (some t13) none) fun t14 =>
   Do Try.prog (sBuiltin .append #[22, 22] 22 [false, false] [(f7 7), t14]) (fun t15 w16 =>
   Rd Try.prog (WS.at w16) (sBin .add 3 true (f7 8) (.int .i64 1)) fun t17 =>
   Q6 .normal (F.upd (F.upd (F.upd (F.upd (F.upd (F.upd (F.upd (F.upd (F.upd (F.upd (F.upd (F.upd (F.upd (F.upd (F.upd (F.upd (F.upd f7 16 (f7 8)) 17 (f7 2)) 18 t9) 21 (f7 7)) 22 (f7 0)) 23 (f7 1)) 24 t10) 25 t11) 26 (f7 1)) 27 t12) 28 t13) 29 t14) 30 t15) 7 t15) 19 (f7 8)) 20 t17) 8 t17) w16) w8.drew)
   (Q6 (.exit 0) (F.upd (F.upd (F.upd f7 16 (f7 8)) 17 (f7 2)) 18 t9) w8))
  (blockQ 0 (seqQ (fun f18 w19 =>
 Rd Try.prog WS.any (sIndexAddr 22 (f18 1) (.int .i64 1)) fun t20 =>
 Rd Try.prog (WS.at w19.drew) (sLoad 3 t20) fun t21 =>
 Rd Try.prog WS.any (sIndexAddr 22 (f18 1) (.int .i64 2)) fun t22 =>
 Rd Try.prog (WS.at w19.drew) (sLoad 3 t22) fun t23 =>
 Rd Try.prog WS.any (sSlice 22 (f18 0) (some t21) (some t23) none) fun t24 =>
 Do Try.prog (sBuiltin .append #[22, 22] 22 [false, false] [(f18 7), t24]) (fun t25 w26 =>
 LoopF [41, 42, 43, 46, 47, 48, 49, 50, 51, 52, 53, 54, 55, 7, 44, 45, 9] (fun Q27 f28 w29 =>
  Rd Try.prog (WS.at w29) (sBin .lss 3 false (f28 9) (f28 2)) fun t30 =>
  CondK t30
   (Rd Try.prog WS.any (sIndexAddr 22 (f28 1) (.int .i64 2)) fun t31 =>
   Rd Try.prog (WS.at w29.drew) (sLoad 3 t31) fun t32 =>
   Rd Try.prog WS.any (sIndexAddr 22 (f28 1) (.int .i64 3)) fun t33 =>
   Rd Try.prog (WS.at w29.drew) (sLoad 3 t33) fun t34 =>
   Rd Try.prog WS.any (sSlice 22 (f28 0) (some t32) (some t34) none) fun t35 =>
   Do Try.prog (sBuiltin .append #[22, 22] 22 [false, false] [(f28 7), t35]) (fun t36 w37 =>
   Rd Try.prog (WS.at w37) (sBin .add 3 true (f28 9) (.int .i64 1)) fun t38 =>
   Q27 .normal (F.upd (F.upd (F.upd (F.upd (F.upd (F.upd (F.upd (F.upd (F.upd (F.upd (F.upd (F.upd (F.upd (F.upd (F.upd (F.upd (F.upd f28 41 (f28 9)) 42 (f28 2)) 43 t30) 46 (f28 7)) 47 (f28 0)) 48 (f28 1)) 49 t31) 50 t32) 51 (f28 1)) 52 t33) 53 t34) 54 t35) 55 t36) 7 t36) 44 (f28 9)) 45 t38) 9 t38) w37) w29.drew)
   (Q27 (.exit 2) (F.upd (F.upd (F.upd f28 41 (f28 9)) 42 (f28 2)) 43 t30) w29))
  (blockQ 2 (seqQ (fun f39 w40 =>
 Rd Try.prog (WS.at w40) (sIndexAddr 22 (f39 1) (.int .i64 3)) fun t41 =>
 Rd Try.prog (WS.at w40) (sLoad 3 t41) fun t42 =>
 Rd Try.prog (WS.at w40) (sSlice 22 (f39 0) (some t42) none none) fun t43 =>
 Do Try.prog (sBuiltin .append #[22, 22] 22 [false, false] [(f39 7), t43]) (fun t44 w45 =>
 k t44 w45) w40) (bodyQ Try.prog [.tmp 6] k)))
  (F.upd (F.upd (F.upd (F.upd (F.upd (F.upd (F.upd (F.upd (F.upd (F.upd (F.upd (F.upd f18 31 (f18 7)) 32 (f18 0)) 33 (f18 1)) 34 t20) 35 t21) 36 (f18 1)) 37 t22) 38 t23) 39 t24) 40 t25) 7 t25) 9 (.int .i64 0)) w26) w19.drew) (bodyQ Try.prog [.tmp 6] k)))
  (F.upd (F.upd (F.upd (F.upd (F.upd (F.upd (F.upd (F.upd (F.upd (initF [v0, v1, v2]) 6 (.slice none 0 0)) 10 v0) 11 v1) 12 t1) 13 t2) 14 t3) 15 t4) 7 t4) 8 (.int .i64 0)) w5) w
theorem body78 : Try.f78.body = some (bodyOf Try.f78) := by kernel_rfl
theorem same78 (v0 v1 v2 : Value) (k : Value → World → Prop) (w : World) : wpF Try.prog pl78 (bodyOf Try.f78) (bodyQ Try.prog Try.f78.results.toList k) (initF [v0, v1, v2]) w = S78 v0 v1 v2 k w := by kernel_rfl
theorem enter78 {v0 v1 v2 : Value} {k : Value → World → Prop} {w : World} (h : S78 v0 v1 v2 k w) : CallK Try.prog 78 [v0, v1, v2] k w :=
  call_of_wpF (pl := pl78) mixed Try.func78 body78 (by kernel_rfl) (of_decide_eq_true (by kernel_rfl)) (by kernel_rfl) (by kernel_rfl) (same78 v0 v1 v2 k w ▸ h)

/-! loop.example/g00758/impl.pumpWord -/
def pl79 : Plans := fun i => match i with
  | 14 => ⟨false, [9], .step 0 .any (.step 1 .any (.step 2 .any (.step 3 .any (.step 4 .held (.step 5 .any (.step 6 .any (.step 7 .held (.step 8 .any (.step 9 .last (.step 10 .any (.nil)))))))))))⟩
  | 16 => ⟨false, [9], .step 0 .any (.step 1 .any (.step 2 .any (.step 3 .any (.step 4 .held (.step 5 .any (.step 6 .any (.step 7 .held (.step 8 .any (.step 9 .last (.step 10 .any (.nil)))))))))))⟩
  | 19 => ⟨false, [9], .step 0 .any (.step 1 .any (.step 2 .any (.step 3 .any (.step 4 .held (.step 5 .any (.step 6 .any (.step 7 .held (.step 8 .any (.step 9 .last (.step 10 .any (.nil)))))))))))⟩
  | _ => ⟨false, [], .nil⟩
def S79 (v0 v1 v2 : Value) (k : Value → World → Prop) (w : World) : Prop :=
 Rd Try.prog (WS.at w) (sBuiltin .len #[22] 3 [false] [v0]) fun t1 =>
 Rd Try.prog (WS.at w) (sBin .gtr 3 true t1 (.int .i64 60)) fun t2 =>
 GuardK t2 false (fun k w' => k v1 w') (fun t3 w4 =>
 GuardK t2 false (fun k w' => Rd Try.prog (WS.at w4) (sBuiltin .len #[22] 3 [false] [t3]) fun v => k v w') (fun t5 w6 =>
 GuardK t2 false (fun k w' => Rd Try.prog (WS.at w6) (sBin .neq 3 true t5 (.int .i64 4)) fun v => k v w') (fun t7 w8 =>
 Rd Try.prog (WS.at w8) (sPick t2 (.bool true) t7) fun t9 =>
 GuardK t9 false (fun k w' => k v2 w') (fun t10 w11 =>
 GuardK t9 false (fun k w' => CallK Try.prog 103 [t10, (.int .i64 0), (.int .i64 4)] k w') (fun t12 w13 =>
 GuardK t9 false (fun k w' => Rd Try.prog (WS.at w13) (sUn .not t12) fun v => k v w') (fun t14 w15 =>
 Rd Try.prog (WS.at w15) (sPick t9 (.bool true) t14) fun t16 =>
 GuardK t16 false (fun k w' => k v0 w') (fun t17 w18 =>
 GuardK t16 false (fun k w' => CallK Try.prog 129 [t17, (.func (.func 130) #[] #[])] k w') (fun t19 w20 =>
 Rd Try.prog (WS.at w20) (sPick t16 (.bool true) t19) fun t21 =>
 CondK t21
  (k (.tuple #[(.slice none 0 0), (.bool false)]) w20)
  (Rd Try.prog (WS.at w20) (sBuiltin .len #[22] 3 [false] [v1]) fun t22 =>
  LoopF [32, 33, 34, 10, 35, 36, 37, 38, 39, 40, 6, 7, 41, 8, 42, 31] (fun Q23 f24 w25 =>
   Rd Try.prog (WS.at w25) (sBin .lss 3 false (f24 31) (f24 30)) fun t26 =>
   CondK t26
    (Rd Try.prog (WS.at w25) (sIndexAddr 22 (f24 29) (f24 31)) fun t27 =>
    Rd Try.prog (WS.at w25) (sLoad 3 t27) fun t28 =>
    Rd Try.prog (WS.at w25) (sBuiltin .len #[22] 3 [false] [(f24 0)]) fun t29 =>
    CallK Try.prog 103 [t28, (f24 8), t29] (fun t30 w31 =>
    Rd Try.prog (WS.at w31) (sUn .not t30) fun t32 =>
    CondK t32
     (Q23 .ret (F.upd (F.upd (F.upd (F.upd (F.upd (F.upd (F.upd (F.upd (F.upd (F.upd (F.upd (F.upd f24 32 t26) 33 t27) 34 t28) 10 t28) 35 t28) 36 (f24 8)) 37 (f24 0)) 38 t29) 39 t30) 40 t32) 6 (.slice none 0 0)) 7 (.bool false)) w31)
     (Rd Try.prog (WS.at w31) (sBin .add 3 true (f24 31) (.int .i64 1)) fun t33 =>
     Q23 .normal (F.upd (F.upd (F.upd (F.upd (F.upd (F.upd (F.upd (F.upd (F.upd (F.upd (F.upd (F.upd (F.upd (F.upd f24 32 t26) 33 t27) 34 t28) 10 t28) 35 t28) 36 (f24 8)) 37 (f24 0)) 38 t29) 39 t30) 40 t32) 41 t28) 8 t28) 42 t33) 31 t33) w31)) w25)
    (Q23 (.exit 0) (F.upd f24 32 t26) w25))
   (blockQ 0 (seqQ (fun f34 w35 =>
  Do Try.prog (sBuildSlice 22 0 []) (fun t36 w37 =>
  Rd Try.prog (WS.at w37) (sIndexAddr 22 (f34 1) (.int .i64 0)) fun t38 =>
  Rd Try.prog (WS.at w37) (sLoad 3 t38) fun t39 =>
  Rd Try.prog (WS.at w37) (sSlice 22 (f34 0) none (some t39) none) fun t40 =>
  Do Try.prog (sBuiltin .append #[22, 22] 22 [false, false] [t36, t40]) (fun t41 w42 =>
  LoopF [52, 53, 54, 55, 56, 57, 58, 59, 60, 61, 62, 11, 63, 51] (fun Q43 f44 w45 =>
   Rd Try.prog (WS.at w45) (sBin .lss 3 false (f44 51) (f44 50)) fun t46 =>
   CondK t46
    (Rd Try.prog WS.any (sIndexAddr 22 (f44 1) (.int .i64 0)) fun t47 =>
    Rd Try.prog (WS.at w45.drew) (sLoad 3 t47) fun t48 =>
    Rd Try.prog WS.any (sIndexAddr 22 (f44 1) (.int .i64 1)) fun t49 =>
    Rd Try.prog (WS.at w45.drew) (sLoad 3 t49) fun t50 =>
    Rd Try.prog WS.any (sSlice 22 (f44 0) (some t48) (some t50) none) fun t51 =>
    Do Try.prog (sBuiltin .append #[22, 22] 22 [false, false] [(f44 11), t51]) (fun t52 w53 =>
    Rd Try.prog (WS.at w53) (sBin .add 3 true (f44 51) (.int .i64 1)) fun t54 =>
    Q43 .normal (F.upd (F.upd (F.upd (F.upd (F.upd (F.upd (F.upd (F.upd (F.upd (F.upd (F.upd (F.upd (F.upd (F.upd f44 52 t46) 53 (f44 11)) 54 (f44 0)) 55 (f44 1)) 56 t47) 57 t48) 58 (f44 1)) 59 t49) 60 t50) 61 t51) 62 t52) 11 t52) 63 t54) 51 t54) w53) w45.drew)
    (Q43 (.exit 2) (F.upd f44 52 t46) w45))
   (blockQ 2 (seqQ (fun f55 w56 =>
  Rd Try.prog WS.any (sIndexAddr 22 (f55 1) (.int .i64 1)) fun t57 =>
  Rd Try.prog (WS.at w56.drew) (sLoad 3 t57) fun t58 =>
  Rd Try.prog WS.any (sIndexAddr 22 (f55 1) (.int .i64 2)) fun t59 =>
  Rd Try.prog (WS.at w56.drew) (sLoad 3 t59) fun t60 =>
  Rd Try.prog WS.any (sSlice 22 (f55 0) (some t58) (some t60) none) fun t61 =>
  Do Try.prog (sBuiltin .append #[22, 22] 22 [false, false] [(f55 11), t61]) (fun t62 w63 =>
  LoopF [76, 77, 78, 79, 80, 81, 82, 83, 84, 85, 86, 11, 87, 75] (fun Q64 f65 w66 =>
   Rd Try.prog (WS.at w66) (sBin .lss 3 false (f65 75) (f65 74)) fun t67 =>
   CondK t67
    (Rd Try.prog WS.any (sIndexAddr 22 (f65 1) (.int .i64 2)) fun t68 =>
    Rd Try.prog (WS.at w66.drew) (sLoad 3 t68) fun t69 =>
    Rd Try.prog WS.any (sIndexAddr 22 (f65 1) (.int .i64 3)) fun t70 =>
    Rd Try.prog (WS.at w66.drew) (sLoad 3 t70) fun t71 =>
    Rd Try.prog WS.any (sSlice 22 (f65 0) (some t69) (some t71) none) fun t72 =>
    Do Try.prog (sBuiltin .append #[22, 22] 22 [false, false] [(f65 11), t72]) (fun t73 w74 =>
    Rd Try.prog (WS.at w74) (sBin .add 3 true (f65 75) (.int .i64 1)) fun t75 =>
    Q64 .normal (F.upd (F.upd (F.upd (F.upd (F.upd (F.upd (F.upd (F.upd (F.upd (F.upd (F.upd (F.upd (F.upd (F.upd f65 76 t67) 77 (f65 11)) 78 (f65 0)) 79 (f65 1)) 80 t68) 81 t69) 82 (f65 1)) 83 t70) 84 t71) 85 t72) 86 t73) 11 t73) 87 t75) 75 t75) w74) w66.drew)
    (Q64 (.exit 4) (F.upd f65 76 t67) w66))
   (blockQ 4 (seqQ (fun f76 w77 =>
  Rd Try.prog (WS.at w77) (sIndexAddr 22 (f76 1) (.int .i64 3)) fun t78 =>
  Rd Try.prog (WS.at w77) (sLoad 3 t78) fun t79 =>
  Rd Try.prog (WS.at w77) (sSlice 22 (f76 0) (some t79) none none) fun t80 =>
  Do Try.prog (sBuiltin .append #[22, 22] 22 [false, false] [(f76 11), t80]) (fun t81 w82 =>
  Rd Try.prog (WS.at w82) (sBuiltin .len #[22] 3 [false] [t81]) fun t83 =>
  Rd Try.prog (WS.at w82) (sBin .gtr 3 true t83 (.int .i64 60)) fun t84 =>
  CondK t84
   (k (.tuple #[(.slice none 0 0), (.bool false)]) w82)
   (k (.tuple #[t81, (.bool true)]) w82)) w77) (bodyQ Try.prog [.tmp 6, .tmp 7] k)))
   (F.upd (F.upd (F.upd (F.upd (F.upd (F.upd (F.upd (F.upd (F.upd (F.upd (F.upd (F.upd (F.upd f55 64 (f55 11)) 65 (f55 0)) 66 (f55 1)) 67 t57) 68 t58) 69 (f55 1)) 70 t59) 71 t60) 72 t61) 73 t62) 11 t62) 74 (f55 2)) 75 (.int .i64 0)) w63) w56.drew) (bodyQ Try.prog [.tmp 6, .tmp 7] k)))
   (F.upd (F.upd (F.upd (F.upd (F.upd (F.upd (F.upd (F.upd (F.upd (F.upd f34 43 t36) 44 (f34 0)) 45 (f34 1)) 46 t38) 47 t39) 48 t40) 49 t41) 11 t41) 50 (f34 2)) 51 (.int .i64 0)) w42) w37) w35) (bodyQ Try.prog [.tmp 6, .tmp 7] k)))
   (F.upd (F.upd (F.upd (F.upd (F.upd (F.upd (F.upd (F.upd (F.upd (F.upd (F.upd (F.upd (F.upd (F.upd (F.upd (F.upd (F.upd (F.upd (F.upd (F.upd (F.upd (F.upd (F.upd (initF [v0, v1, v2]) 6 (.slice none 0 0)) 7 (.bool false)) 12 v0) 13 t1) 14 t2) 15 t2) 16 t3) 17 t5) 18 t7) 19 t9) 20 t9) 21 t10) 22 t12) 23 t14) 24 t16) 25 t16) 26 t17) 27 t19) 28 t21) 8 (.int .i64 0)) 29 v1) 30 t22) 31 (.int .i64 0)) w20)) w18) w15) w13) w11) w8) w6) w4) w
theorem body79 : Try.f79.body = some (bodyOf Try.f79) := by kernel_rfl
theorem same79 (v0 v1 v2 : Value) (k : Value → World → Prop) (w : World) : wpF Try.prog pl79 (bodyOf Try.f79) (bodyQ Try.prog Try.f79.results.toList k) (initF [v0, v1, v2]) w = S79 v0 v1 v2 k w := by kernel_rfl
theorem enter79 {v0 v1 v2 : Value} {k : Value → World → Prop} {w : World} (h : S79 v0 v1 v2 k w) : CallK Try.prog 79 [v0, v1, v2] k w :=
  call_of_wpF (pl := pl79) mixed Try.func79 body79 (by kernel_rfl) (of_decide_eq_true (by kernel_rfl)) (by kernel_rfl) (by kernel_rfl) (same79 v0 v1 v2 k w ▸ h)

/-! loop.example/g00758/impl.in -/
def pl103 : Plans := fun _ => ⟨false, [], .nil⟩
def S103 (v0 v1 v2 : Value) (k : Value → World → Prop) (w : World) : Prop :=
 Rd Try.prog (WS.at w) (sBin .geq 3 false v0 v1) fun t1 =>
 GuardK t1 true (fun k w' => k v0 w') (fun t2 w3 =>
 GuardK t1 true (fun k w' => k v2 w') (fun t4 w5 =>
 GuardK t1 true (fun k w' => Rd Try.prog (WS.at w5) (sBin .leq 3 false t2 t4) fun v => k v w') (fun t6 w7 =>
 Rd Try.prog (WS.at w7) (sPick t1 t6 (.bool false)) fun t8 =>
 k t8 w7) w5) w3) w
theorem body103 : Try.f103.body = some (bodyOf Try.f103) := by kernel_rfl
theorem same103 (v0 v1 v2 : Value) (k : Value → World → Prop) (w : World) : wpF Try.prog pl103 (bodyOf Try.f103) (bodyQ Try.prog Try.f103.results.toList k) (initF [v0, v1, v2]) w = S103 v0 v1 v2 k w := by kernel_rfl
theorem enter103 {v0 v1 v2 : Value} {k : Value → World → Prop} {w : World} (h : S103 v0 v1 v2 k w) : CallK Try.prog 103 [v0, v1, v2] k w :=
  call_of_wpF (pl := pl103) mixed Try.func103 body103 (by kernel_rfl) (of_decide_eq_true (by kernel_rfl)) (by kernel_rfl) (by kernel_rfl) (same103 v0 v1 v2 k w ▸ h)

/-! loop.example/g00758/spec.l1Own -/
def pl116 : Plans := fun _ => ⟨false, [], .nil⟩
def S116 (v0 : Value) (k : Value → World → Prop) (w : World) : Prop :=
 Do Try.prog (sBuildSlice 22 0 []) (fun t1 w2 =>
 Do Try.prog (sBuiltin .append #[22, 22] 22 [false, false] [t1, v0]) (fun t3 w4 =>
 k t3 w4) w2) w
theorem body116 : Try.f116.body = some (bodyOf Try.f116) := by kernel_rfl
theorem same116 (v0 : Value) (k : Value → World → Prop) (w : World) : wpF Try.prog pl116 (bodyOf Try.f116) (bodyQ Try.prog Try.f116.results.toList k) (initF [v0]) w = S116 v0 k w := by kernel_rfl
theorem enter116 {v0 : Value} {k : Value → World → Prop} {w : World} (h : S116 v0 k w) : CallK Try.prog 116 [v0] k w :=
  call_of_wpF (pl := pl116) mixed Try.func116 body116 (by kernel_rfl) (of_decide_eq_true (by kernel_rfl)) (by kernel_rfl) (by kernel_rfl) (same116 v0 k w ▸ h)

/-! slices.ContainsFunc[[]int,int] -/
def pl129 : Plans := fun _ => ⟨false, [], .nil⟩
def S129 (v0 v1 : Value) (k : Value → World → Prop) (w : World) : Prop :=
 CallK Try.prog 171 [v0, v1] (fun t1 w2 =>
 Rd Try.prog (WS.at w2) (sBin .geq 3 true t1 (.int .i64 0)) fun t3 =>
 k t3 w2) w
theorem body129 : Try.f129.body = some (bodyOf Try.f129) := by kernel_rfl
theorem same129 (v0 v1 : Value) (k : Value → World → Prop) (w : World) : wpF Try.prog pl129 (bodyOf Try.f129) (bodyQ Try.prog Try.f129.results.toList k) (initF [v0, v1]) w = S129 v0 v1 k w := by kernel_rfl
theorem enter129 {v0 v1 : Value} {k : Value → World → Prop} {w : World} (h : S129 v0 v1 k w) : CallK Try.prog 129 [v0, v1] k w :=
  call_of_wpF (pl := pl129) mixed Try.func129 body129 (by kernel_rfl) (of_decide_eq_true (by kernel_rfl)) (by kernel_rfl) (by kernel_rfl) (same129 v0 v1 k w ▸ h)

/-! loop.example/g00758/impl.pumpWord$1 -/
def pl130 : Plans := fun _ => ⟨false, [], .nil⟩
def S130 (v0 : Value) (k : Value → World → Prop) (w : World) : Prop :=
 CallK Try.prog 103 [v0, (.int .i64 0), (.int .i64 1000000)] (fun t1 w2 =>
 Rd Try.prog (WS.at w2) (sUn .not t1) fun t3 =>
 k t3 w2) w
theorem body130 : Try.f130.body = some (bodyOf Try.f130) := by kernel_rfl
theorem same130 (v0 : Value) (k : Value → World → Prop) (w : World) : wpF Try.prog pl130 (bodyOf Try.f130) (bodyQ Try.prog Try.f130.results.toList k) (initF [v0]) w = S130 v0 k w := by kernel_rfl
theorem enter130 {v0 : Value} {k : Value → World → Prop} {w : World} (h : S130 v0 k w) : CallK Try.prog 130 [v0] k w :=
  call_of_wpF (pl := pl130) mixed Try.func130 body130 (by kernel_rfl) (of_decide_eq_true (by kernel_rfl)) (by kernel_rfl) (by kernel_rfl) (same130 v0 k w ▸ h)

/-! slices.IndexFunc[[]int,int] -/
def pl171 : Plans := fun _ => ⟨false, [], .nil⟩
def S171 (v0 v1 : Value) (k : Value → World → Prop) (w : World) : Prop :=
 Rd Try.prog (WS.at w) (sBuiltin .len #[22] 3 [false] [v0]) fun t1 =>
 LoopF [9, 10, 5, 11, 12, 13, 14, 15, 16, 17, 4, 18, 8] (fun Q2 f3 w4 =>
  Rd Try.prog (WS.at w4) (sBin .lss 3 false (f3 8) (f3 7)) fun t5 =>
  CondK t5
   (Rd Try.prog (WS.at w4) (sIndexAddr 22 (f3 0) (f3 8)) fun t6 =>
   Rd Try.prog (WS.at w4) (sLoad 3 t6) fun t7 =>
   Do Try.prog (sCallV (f3 1) [t7] 4) (fun t8 w9 =>
   CondK t8
    (Q2 .ret (F.upd (F.upd (F.upd (F.upd (F.upd (F.upd (F.upd (F.upd (F.upd (F.upd (F.upd f3 9 t5) 10 (f3 8)) 5 (f3 8)) 11 (f3 1)) 12 (f3 0)) 13 (f3 8)) 14 t6) 15 t7) 16 t8) 17 (f3 8)) 4 (f3 8)) w9)
    (Rd Try.prog (WS.at w9) (sBin .add 3 true (f3 8) (.int .i64 1)) fun t10 =>
    Q2 .normal (F.upd (F.upd (F.upd (F.upd (F.upd (F.upd (F.upd (F.upd (F.upd (F.upd (F.upd f3 9 t5) 10 (f3 8)) 5 (f3 8)) 11 (f3 1)) 12 (f3 0)) 13 (f3 8)) 14 t6) 15 t7) 16 t8) 18 t10) 8 t10) w9)) w4)
   (Q2 (.exit 0) (F.upd f3 9 t5) w4))
  (blockQ 0 (seqQ (fun f11 w12 =>
 k (.int .i64 (-1)) w12) (bodyQ Try.prog [.tmp 4] k)))
  (F.upd (F.upd (F.upd (F.upd (initF [v0, v1]) 4 (.int .i64 0)) 6 v0) 7 t1) 8 (.int .i64 0)) w
theorem body171 : Try.f171.body = some (bodyOf Try.f171) := by kernel_rfl
theorem same171 (v0 v1 : Value) (k : Value → World → Prop) (w : World) : wpF Try.prog pl171 (bodyOf Try.f171) (bodyQ Try.prog Try.f171.results.toList k) (initF [v0, v1]) w = S171 v0 v1 k w := by kernel_rfl
theorem enter171 {v0 v1 : Value} {k : Value → World → Prop} {w : World} (h : S171 v0 v1 k w) : CallK Try.prog 171 [v0, v1] k w :=
  call_of_wpF (pl := pl171) mixed Try.func171 body171 (by kernel_rfl) (of_decide_eq_true (by kernel_rfl)) (by kernel_rfl) (by kernel_rfl) (same171 v0 v1 k w ▸ h)

end Go.Proofs.Ytiohaeckagjebaa
