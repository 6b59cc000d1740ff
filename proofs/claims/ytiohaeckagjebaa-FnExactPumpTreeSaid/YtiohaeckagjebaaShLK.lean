/- What the laws do with memory: copies, marks, looks, over things that lie apart. -/
import Derived.Test.YtiohaeckagjebaaShK3
import Derived.Test.YtiohaeckagjebaaShH8
import Derived.Test.YtiohaeckagjebaaBe
set_option linter.unusedVariables false
set_option linter.unusedSimpArgs false
set_option maxRecDepth 100000
namespace Go.Sh
open Go
def total (ls : List (List Int)) : Nat := (ls.map List.length).sum
theorem total_snoc (ls : List (List Int)) (l : List Int) : total (ls ++ [l]) = total ls + l.length := by simp [total]
def markS (m : Int) : List (List Int) → List (List Int)
  | [] => []
  | l :: ls => marks m l.length :: markS (m + l.length) ls
theorem markS_length : ∀ (m : Int) (ls : List (List Int)), (markS m ls).length = ls.length
  | m, [] => rfl
  | m, l :: ls => by simp [markS, markS_length]
theorem markS_snoc : ∀ (m : Int) (ls : List (List Int)) (l : List Int), markS m (ls ++ [l]) = markS m ls ++ [marks (m + total ls) l.length]
  | m, [], l => by simp [markS, total]
  | m, x :: ls, l => by
    have e : m + (x.length : Int) + (total ls : Nat) = m + (total (x :: ls) : Nat) := by
      simp only [total, List.map_cons, List.sum_cons]
      omega
    simp only [List.cons_append, markS, markS_snoc, e]
theorem total_take_le (ls : List (List Int)) (i : Nat) : total (ls.take i) ≤ total ls := by
  have e : total ls = total (ls.take i) + total (ls.drop i) := by
    unfold total
    rw [← List.sum_append, ← List.map_append, List.take_append_drop]
  omega
theorem OwnSS.putAll {e1 e2 : Nat} {w w' : World} {B c i : Nat} {ys : List Int} {X : Option Addr} {ls : List (List Int)} {ps : Nat → Option Addr × Nat} (h : OwnSS e1 e2 w B X c ls ps) (he : e1 ≠ e2) (hi : i < ls.length) (hl : ys.length = (rgt ls i).length) (hr : Own e2 w' B (ps i).1 (ps i).2 ys) (g : w.grownBy w' (blk (ps i).1)) : OwnSS e1 e2 w' B X c (ls.set i ys) ps := by
  obtain ⟨⟨cells, hr0, hc⟩, ho, ht⟩ := h
  have hg : ∀ j, rgt (ls.set i ys) j = if j = i then ys else rgt ls j := fun j => by
    simp only [rgt, List.getD_eq_getElem?_getD, List.getElem?_set]
    by_cases hij : i = j
    · subst hij
      simp [hi]
    · rw [if_neg hij, if_neg (fun e => hij e.symm)]
  refine ⟨⟨cells, by rw [List.length_set]; exact Row.kept hr0 g (row_ne hr0 (ho i hi) he), fun j hj => ?_⟩, fun j hj => ?_, fun a b ha hb hab => ?_⟩
  · rw [List.length_set] at hj
    rw [hc j hj, hg j]
    by_cases hij : j = i
    · subst hij
      rw [if_pos rfl, hl]
    · rw [if_neg hij]
  · rw [List.length_set] at hj
    rw [hg j]
    by_cases hij : j = i
    · subst hij
      rw [if_pos rfl]
      exact hr
    · rw [if_neg hij]
      exact Row.kept (ho j hj) g (ht j i hj hi hij)
  · rw [List.length_set] at ha hb
    exact ht a b ha hb hab
theorem left_le {n : Int} {s : Nat} (h : 0 ≤ n) : left n s ≤ n := by
  unfold left
  split <;> omega
theorem Apt.setRules {w0 w w' : World} {L : List Thing} (H : Apt w0 w L) (i : Nat) {e1 e2 B c : Nat} {X : Option Addr} {rs rs' : List RuleL} {ps : Nat → Option Addr × Nat} (hi : L[i]? = some (rls e1 e2 X c rs ps)) (hl : rs'.length = rs.length) (g : Gx (Foot X ps rs.length) w w') (h : OwnR e1 e2 w' B X c rs' ps) : Apt w0 w' (L.set i (rls e1 e2 X c rs' ps)) :=
  H.set hi g (fun q hq => .inl (show Foot X ps rs.length q from hl ▸ (show Foot X ps rs'.length q from hq))) (fun q hq => (h.foot hq).2) (rls_kept h)
section
variable {P : Program} {S : WS} {k : Value → Prop}
theorem bin_lss_false {t : TypeId} {c : Bool} {kd : IntKind} {x y : Int} (h : ¬ x < y) : Rd P S (sBin .lss t c (.int kd x) (.int kd y)) k = k (.bool false) := by rw [bin_lss, decide_eq_false h]
theorem bin_gtr_false {t : TypeId} {c : Bool} {kd : IntKind} {x y : Int} (h : ¬ y < x) : Rd P S (sBin .gtr t c (.int kd x) (.int kd y)) k = k (.bool false) := by rw [bin_gtr, decide_eq_false h]
theorem bin_neqi_same {t : TypeId} {c : Bool} {kd : IntKind} {x : Int} : Rd P S (sBin .neq t c (.int kd x) (.int kd x)) k = k (.bool false) := by rw [bin_neq, decide_eq_true rfl]; rfl
end
end Go.Sh
namespace Go.Proofs.Ytiohaeckagjebaa
open Go Go.Sh Go.RowKit
theorem bin_neq_same {S : WS} {k : Value → Prop} {c x : Bool} : Rd Try.prog S (sBin .neq 4 c (.bool x) (.bool x)) k = k (.bool false) := by
  rw [bin_neq_bool Try.underlying4, beq_self_eq_true]
  rfl
theorem eqGrammar_same {F E : Nat → Prop} {w : World} {v u : Value} {a : Gram} (hv : GramV F w v a) (hu : GramV E w u a) {k : Value → World → Prop} (hk : ∀ w', Gr w w' → k (.bool true) w') : CallK Try.prog 33 [v, u] k w :=
  eqGrammar_c hv hu fun w' g => by
    rw [decide_eq_true rfl]
    exact hk w' g
theorem eqIntS_same {w : World} {X Y : Option Addr} {c d : Nat} {xs : List Int} (hx : Ints w X xs) (hy : Ints w Y xs) {k : Value → World → Prop} (hk : ∀ w', Gr w w' → k (.bool true) w') : CallK Try.prog 26 [.slice X xs.length c, .slice Y xs.length d] k w :=
  eqIntS_c hx hy fun w' g => by
    rw [decide_eq_true rfl]
    exact hk w' g
theorem eqIntSS_same {w : World} {X Y : Option Addr} {c d : Nat} {ls : List (List Int)} (hx : Intss w X ls) (hy : Intss w Y ls) {k : Value → World → Prop} (hk : ∀ w', Gr w w' → k (.bool true) w') : CallK Try.prog 46 [.slice X ls.length c, .slice Y ls.length d] k w := by
  refine enter46 ?_
  unfold S46
  have hle := hx.le
  simp only [decide_true, Bool.not_true, go_sem, Nat.reduceEqDiff]
  refine loop_to ls.length 0 (fun i f w' => i ≤ ls.length ∧ f 5 = .int .i64 i ∧ Gr w w') ⟨Nat.zero_le _, rfl, Gr.refl w⟩ ?_
  rintro i f w1 N hag ⟨hi, h5, g⟩ hN
  have f0 : f 0 = .slice X ls.length c := hag 0 (by decide)
  have f1 : f 1 = .slice Y ls.length d := hag 1 (by decide)
  simp only [f0, f1, h5, go_sem, Nat.reduceEqDiff]
  by_cases hlt : i < ls.length
  case neg =>
    simp only [show ¬ (i : Int) < ls.length from by omega, decide_false, go_sem, Nat.reduceEqDiff]
    exact hk _ g
  simp only [show (i : Int) < ls.length from by omega, decide_true, go_sem, Nat.reduceEqDiff]
  obtain ⟨U, cu, a1, a2, a3⟩ := hx.row i hlt
  obtain ⟨V, cv, b1, b2, b3⟩ := hy.row i hlt
  have gd := gr_trans g (gr_drew w1)
  rw [ixn48 hx.ptr hlt, ld22 (gd.cell a1), ixn48 hy.ptr hlt, ld22 (gd.cell b1)]
  refine eqIntS_same (a3.gr gd) (b3.gr gd) fun w2 g2 => ?_
  simp only [Bool.not_true, go_sem, Nat.reduceEqDiff]
  rw [i64_of (by omega) (by omega)]
  exact hN _ _ hlt ⟨hlt, rfl, gr_trans gd g2⟩
section
variable {k : Value → World → Prop} {w0 w : World} {L : List Thing}
theorem markH (H : Apt w0 w L) (i : Nat) {n c : Nat} {X : Option Addr} {xs : List Int} {m : Int} (hi : L[i]? = some (ows X c xs)) (hn : n = xs.length) (h0 : 0 ≤ m) (h1 : m + xs.length ≤ 9223372036854775807)
    (h : ∀ w', Apt w0 w' (L.set i (ows X c (marks m xs.length))) → k (.int .i64 (m + xs.length)) w') : CallK Try.prog 27 [.slice X n c, .int .i64 m] k w :=
  markIntS_c (H.own i hi) hn h0 h1 fun w' g o => h w' (H.set hi (gx_of g fun q hq => hq) (fun q hq => .inl hq) (fun q hq => (Row.ge o hq).2) (rwi_kept o))
theorem markSSH (H : Apt w0 w L) (i : Nat) {n c : Nat} {X : Option Addr} {ls : List (List Int)} {ps : Nat → Option Addr × Nat} {m : Int} (hi : L[i]? = some (lss X c ls ps)) (hn : n = ls.length) (h0 : 0 ≤ m) (h1 : m + total ls ≤ 9223372036854775807)
    (h : ∀ w', Apt w0 w' (L.set i (lss X c (markS m ls) ps)) → k (.int .i64 (m + total ls)) w') : CallK Try.prog 47 [.slice X n c, .int .i64 m] k w := by
  subst hn
  refine enter47 ?_
  unfold S47
  have hle := (H.lssi i hi).read.le
  have hil := get_lt hi
  refine loop_to ls.length 0 (fun j f w' => j ≤ ls.length ∧ f 5 = .int .i64 j ∧ f 1 = .int .i64 (m + total (ls.take j)) ∧ Apt w0 w' (L.set i (lss X c (markS m (ls.take j) ++ ls.drop j) ps)))
    ⟨Nat.zero_le _, rfl, by simp [total]; rfl, by simpa [markS, List.getElem?_eq_getElem hil, ← (List.getElem?_eq_some_iff.1 hi).2] using H⟩ ?_
  rintro j f w1 N hag ⟨hj, h5, hf1, H1⟩ hN
  have f0 : f 0 = .slice X ls.length c := hag 0 (by decide)
  simp only [f0, hf1, h5, go_sem, Nat.reduceEqDiff]
  by_cases hlt : j < ls.length
  case neg =>
    simp only [show ¬ (j : Int) < ls.length from by omega, decide_false, go_sem, Nat.reduceEqDiff]
    rw [List.take_of_length_le (by omega), List.drop_eq_nil_of_le (by omega), List.append_nil] at H1
    rw [List.take_of_length_le (by omega)]
    exact h _ H1
  simp only [show (j : Int) < ls.length from by omega, decide_true, go_sem, Nat.reduceEqDiff]
  have hget : (L.set i (lss X c (markS m (ls.take j) ++ ls.drop j) ps))[i]? = some (lss X c (markS m (ls.take j) ++ ls.drop j) ps) := by rw [List.getElem?_set_self hil]
  have o := H1.lssi i hget
  have hll : (markS m (ls.take j) ++ ls.drop j).length = ls.length := by
    rw [List.length_append, markS_length, List.length_take, List.length_drop]
    omega
  have hr : rgt (markS m (ls.take j) ++ ls.drop j) j = rgt ls j := by
    rw [rgt_right (by rw [markS_length, List.length_take]; omega), markS_length, List.length_take]
    simp [rgt, List.getD_eq_getElem?_getD, Nat.min_eq_left hj]
  have hj' : j < (markS m (ls.take j) ++ ls.drop j).length := by omega
  have htk := total_take_le ls (j + 1)
  rw [take_snoc_rgt hlt, total_snoc] at htk
  have hoj := o.own j hj'
  have hcj := o.cell hj'
  rw [hr] at hoj hcj
  rw [ixn48 (fun h => o.ptr (by omega)) hlt, ld22 hcj]
  refine markIntS_c hoj rfl (by omega) (by omega) fun w2 g2 o2 => ?_
  rw [i64_of (n := (j : Int) + 1) (by omega) (by omega)]
  have o' := o.putAll (by decide) hj' (by rw [marks_length, hr]) o2 g2
  have H2 := H1.set hget (gx_of g2 fun q hq => .inr ⟨j, hj', hq⟩) (it' := lss X c _ ps) (fun q hq => .inl (by
    rcases hq with hq | ⟨l, hl, hq⟩
    · exact .inl hq
    · rw [List.length_set] at hl
      exact .inr ⟨l, hl, hq⟩)) (fun q hq => (o'.foot hq).2) (lssi_kept o')
  have e : (markS m (ls.take j) ++ ls.drop j).set j (marks (m + total (ls.take j)) (rgt ls j).length) = markS m (ls.take (j + 1)) ++ ls.drop (j + 1) := by
    rw [take_snoc_rgt hlt, markS_snoc, List.set_append_right _ _ (by rw [markS_length, List.length_take]; omega), markS_length, List.length_take, Nat.min_eq_left hj, Nat.sub_self, List.drop_eq_getElem_cons hlt, List.set_cons_zero, List.append_assoc]
    rfl
  rw [e, List.set_set] at H2
  refine hN _ _ hlt ⟨hlt, rfl, ?_, H2⟩
  rw [take_snoc_rgt hlt, total_snoc]
  show Value.int .i64 _ = _
  congr 1
  omega
theorem heldIntSS_c {X : Option Addr} {c n : Nat} {ls : List (List Int)} {m : Int} (hx : Intss w X (markS m ls)) (hn : n = ls.length) (h0 : 0 ≤ m) (h1 : m + total ls ≤ 9223372036854775807) (hk : ∀ w', Gr w w' → k (.int .i64 (m + total ls)) w') :
    CallK Try.prog 48 [.slice X n c, .int .i64 m] k w := by
  subst hn
  refine enter48 ?_
  unfold S48
  have hle := hx.le
  have hml := markS_length m ls
  refine loop_to ls.length 0 (fun j f w' => j ≤ ls.length ∧ f 5 = .int .i64 j ∧ f 1 = .int .i64 (m + total (ls.take j)) ∧ Gr w w') ⟨Nat.zero_le _, rfl, by simp [total]; rfl, Gr.refl w⟩ ?_
  rintro j f w1 N hag ⟨hj, h5, hf1, g⟩ hN
  have f0 : f 0 = .slice X ls.length c := hag 0 (by decide)
  simp only [f0, hf1, h5, go_sem, Nat.reduceEqDiff]
  by_cases hlt : j < ls.length
  case neg =>
    simp only [show ¬ (j : Int) < ls.length from by omega, decide_false, go_sem, Nat.reduceEqDiff]
    rw [List.take_of_length_le (by omega)]
    exact hk _ g
  simp only [show (j : Int) < ls.length from by omega, decide_true, go_sem, Nat.reduceEqDiff]
  have hr : rgt (markS m ls) j = marks (m + total (ls.take j)) (rgt ls j).length := by
    have e : ls = ls.take j ++ ([rgt ls j] ++ ls.drop (j + 1)) := by
      rw [← List.append_assoc, ← take_snoc_rgt hlt, List.take_append_drop]
    have key : ∀ (us bs : List (List Int)) (m : Int), markS m (us ++ bs) = markS m us ++ markS (m + total us) bs := by
      intro us
      induction us with
      | nil => intro bs m; simp [markS, total]
      | cons a us ih =>
        intro bs m
        have e : m + (a.length : Int) + (total us : Nat) = m + (total (a :: us) : Nat) := by
          simp only [total, List.map_cons, List.sum_cons]
          omega
        simp only [List.cons_append, markS, ih, e]
    generalize hq : rgt ls j = q at e
    have e' : markS m ls = markS m (ls.take j) ++ markS (m + total (ls.take j)) ([q] ++ ls.drop (j + 1)) := by rw [← key, ← e]
    rw [e', rgt_right (by rw [markS_length, List.length_take]; omega), markS_length, List.length_take]
    rw [show j - min j ls.length = 0 from by omega]
    rfl
  obtain ⟨U, cu, a1, a2, a3⟩ := hx.row j (by omega)
  rw [hr] at a1 a2 a3
  rw [marks_length] at a1 a2
  have htk := total_take_le ls (j + 1)
  rw [take_snoc_rgt hlt, total_snoc] at htk
  rw [ixn48 (fun h => hx.ptr (by omega)) hlt, ld22 (g.cell a1)]
  refine heldIntS_c (a3.gr g) rfl (by omega) (by omega) fun w2 g2 => ?_
  simp only [go_sem, Nat.reduceEqDiff]
  simp only [show ¬ (m + total (ls.take j) + (rgt ls j).length < 0) from by omega, decide_false, go_sem, Nat.reduceEqDiff]
  rw [i64_of (n := (j : Int) + 1) (by omega) (by omega)]
  refine hN _ _ hlt ⟨hlt, rfl, ?_, gr_trans g g2⟩
  rw [take_snoc_rgt hlt, total_snoc]
  show Value.int .i64 _ = _
  congr 1
  omega
end
end Go.Proofs.Ytiohaeckagjebaa
