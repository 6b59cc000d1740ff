/- Contracts: the parts of a tree in memory, and the two that can be pumped, by the program. -/
import Derived.Test.YtiohaeckagjebaaShQ3
set_option linter.unusedVariables false
set_option linter.unusedSimpArgs false
set_option maxRecDepth 100000
namespace Go.Sh
open Go
theorem partsL_take {ks : List PT} {i : Nat} (h : i < ks.length) : PT.partsL (ks.take (i + 1)) = PT.partsL (ks.take i) ++ (ptn ks i).parts := by
  rw [List.take_succ_eq_append_getElem h, partsL_append, ptn_eq h]
  simp [PT.partsL]
theorem partsL_take_le {ks : List PT} (i : Nat) : (PT.partsL (ks.take i)).length ≤ (PT.partsL ks).length := by
  have e : PT.partsL ks = PT.partsL (ks.take i) ++ PT.partsL (ks.drop i) := by rw [← partsL_append, List.take_append_drop]
  rw [e, List.length_append]
  omega
theorem ptrs_one (bs : List Nat) : ∀ v ∈ bs.map ptrv, v.oneCell' = true := by
  intro v hv
  obtain ⟨b, _, rfl⟩ := List.mem_map.1 hv
  rfl
theorem ptrs_at {bs : List Nat} {i : Nat} (h : i < bs.length) : (bs.map ptrv)[i]? = some (ptrv (bs.getD i 0)) := by simp [List.getD_eq_getElem?_getD, h]
theorem ptn_drop {ps : List PT} {i n j : Nat} (hj : j < n) : ptn ((ps.drop i).take n) j = ptn ps (i + j) := by
  simp [ptn, List.getD_eq_getElem?_getD, List.getElem?_take, hj]
theorem kids_le (ks : List PT) : ks.length ≤ (PT.partsL ks).length := by
  induction ks with
  | nil => simp [PT.partsL]
  | cons k ks ih =>
    rw [PT.partsL, parts_cons]
    simp
    omega
theorem run_equal_nil {P : Program} {t e : TypeId} {a : Option Addr} (ht : P.underlying t = some (.pointer e)) (d : Nat) (w : World) : (Op.equalIn (d + 1) t (.pointer a) (.pointer none)).run P w = .ok a.isNone w := by
  cases a <;> simp [Op.equalIn, run_underlying ht]
theorem bin_eql_ptr {P : Program} {S : WS} {k : Value → Prop} {t e : TypeId} {c : Bool} {a : Option Addr} (ht : P.underlying t = some (.pointer e)) : Rd P S (sBin .eql t c (.pointer a) (.pointer none)) k = k (.bool a.isNone) := rd_eq fun w _ => by
  have e1 : (eqGuard .eql t (if c then .const undef else .tmp 0) (.tmp 0) (.pointer a) (.pointer none)).run P w = .ok () w := rfl
  have e2 : (binOp .eql t (.pointer a) (.pointer none)).run P w = .ok (.bool a.isNone) w := by
    show Sem.run P (do pure (Value.bool (← Op.equalIn (9999 + 1) t (.pointer a) (.pointer none)))) w = _
    simp only [Sem.run_bind, run_equal_nil ht 9999 w, Result.andThen]
    rfl
  simp only [sBin, Sem.run_bind, e1, Result.andThen, e2]
  rfl
end Go.Sh
namespace Go.Proofs.Ytiohaeckagjebaa
open Go Go.Sh Go.RowKit

theorem parts_c : ∀ (n : Nat) {F : Nat → Prop} {w : World} {p : PT} {b : Nat} {k : Value → World → Prop}, p.parts.length ≤ n → n ≤ 1000 → (∀ q, F q → q < w.heap.size) → PartAt F w p b →
    (∀ w' U d bs, Gr w w' → Row w' w.heap.size 86 1 U (List.length bs) d (bs.map ptrv) → AllPt F w' p.parts bs → k (.slice U (List.length bs) d) w') → CallK Try.prog 96 [ptrv b] k w := by
  intro n
  induction n with
  | zero =>
    intro F w p b k hn
    rw [parts_cons] at hn
    simp at hn
  | succ n ih =>
    intro F w p b k hn hn1 hF hp hk
    obtain ⟨X, c, hb, hX, hc, hks⟩ := hp.box
    refine enter96 ?_
    unfold S96
    rw [parts_cons] at hn hk
    simp only [List.length_cons] at hn
    have hkl := kids_le p.kids
    have H := Apt.nil w
    refine buildH H u91 inf86 [ptrv b] (by decide) (by decide) (by simp [Instr.fill, madeCells, Value.cells, rng1]) rfl fun b1 w1 H => ?_
    simp only [go_sem, Nat.reduceEqDiff]
    rw [ldB91 (hb.gr H.gr) rfl]
    simp only [go_sem, Nat.reduceEqDiff]
    refine loop_to p.kids.length 0 (fun i f w' => i ≤ p.kids.length ∧ f 13 = .int .i64 i ∧ ∃ (U : Option Addr) (d : Nat) (bs : List Nat), f 3 = .slice U bs.length d ∧ AllPt F w' (p :: PT.partsL (p.kids.take i)) bs ∧ Apt w w' [rwi 86 1 U bs.length d (bs.map ptrv)])
      ⟨Nat.zero_le _, rfl, _, _, [b], rfl, by simpa [PT.partsL] using AllPt.one (hp.gr H.gr), H⟩ ?_
    rintro i f w2 N hag ⟨hi, h13, U, d, bs, h3, hA, H⟩ hN
    have f11 : f 11 = .slice X p.kids.length c := hag 11 (by decide)
    have f12 : f 12 = .int .i64 p.kids.length := hag 12 (by decide)
    simp only [f11, f12, h13, h3, go_sem, Nat.reduceEqDiff]
    by_cases hlt : i < p.kids.length
    · simp only [show (i : Int) < p.kids.length from by omega, decide_true, go_sem, Nat.reduceEqDiff]
      obtain ⟨bk, hcell, hpart⟩ := hks.get hlt
      rw [Nat.zero_add] at hcell
      have hle := partsL_take_le (ks := p.kids) (i + 1)
      rw [partsL_take hlt, List.length_append] at hle
      have hAl := hA.1
      simp only [List.length_cons] at hAl
      rw [ixn91 hX hlt, ld86 (H.gr.cell hcell)]
      have G2 := H.gr
      refine ih (by omega) (by omega) (fun q hq => Nat.lt_of_lt_of_le (hF q hq) H.gr.size) (hpart.gr H.gr) fun w3 V d' cs g3 r3 a3 => ?_
      have H := H.addRow g3 r3
      have hal := a3.1
      refine appendH H 0 rfl u91 inf86 rfl (by decide) (Row.src (H.row 1 rfl)) (by simp) (ptrs_one cs) (by omega) (by omega) fun X' c' w4 H => ?_
      have H := H.erase 1
      have hA' := (hA.append (a3.across hF (gr_trans G2 g3) G2)).across hF G2 H.gr
      rw [i64_of (by omega) (by omega)]
      refine hN _ _ hlt ⟨hlt, rfl, X', c', bs ++ cs, by rw [List.length_append]; rfl, ?_, ?_⟩
      · rw [partsL_take hlt]
        exact hA'
      · rw [List.map_append, List.length_append]
        exact H
    · simp only [show ¬ (i : Int) < p.kids.length from by omega, decide_false, go_sem, Nat.reduceEqDiff]
      rw [List.take_of_length_le (by omega)] at hA
      exact hk _ U d bs H.gr (H.row 0 rfl) hA
end Go.Proofs.Ytiohaeckagjebaa
