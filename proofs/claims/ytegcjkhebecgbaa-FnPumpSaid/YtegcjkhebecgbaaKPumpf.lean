/- Texts of this repository put together: ShX8, ShX9, ShY5, ShW0, ShW2, ShY6, ShX3, ShX5, ShXA, ShXB, ShG8, ShH8, ShLK, ShY7, ShY8, ShY9, ShO1, ShYA, ShYB, ShM8, ShM9, ShN3, ShO4, ShO5, ShYC, ShYD, Cc, ShF1, ShF2, Sh50, ShF3, ShF4, Sh51, ShF5, ShF6, ShB1, ShF7, Cd, ShF8, ShF9, ShFA, ShFB, ShFC, ShFD, Sh1x, Cg, ShFE, ShFF, ShFG, ShFH, ShB2, ShI4, Bd, ShJ1, ShB3, ShB4, ShI5, ShI7, ShU7, ShU3, ShI8, Sh52, Sh53, Sh54, Ch, Sh55, Sh1y, Cf, Sh56, Sh57, Sh58, Cl, Sh62, Cj, Sh63, Ck. -/
import Derived.Test.YtegcjkhebecgbaaKPumpe
import Derived.Test.YtegcjkhebecgbaaKPumpc
import Derived.Test.YtegcjkhebecgbaaKPumpb
import Derived.Shelf.Spec.SlicesInsert
import Derived.Shelf.Spec.SlicesInsertGrow
import Derived.Shelf.Slices.Delete
import Derived.WideKeyArr
import Derived.WideMake
import Derived.Test.YtegcjkhebecgbaaKPumpd
import Derived.Test.YtegcjkhebecgbaaKPumpa
import Derived.Shelf.SlSortCmp.Whole1
import Derived.Test.YtegcjkhebecgbaaProg

set_option linter.unusedVariables false
set_option linter.unusedSimpArgs false
set_option maxRecDepth 100000
namespace Go.Sh
open Go
structure HeadP (hs : List (List Value)) (ps : Nat → Option Addr × Nat) (nons nn m kk c : Nat) : Prop where
  len : hs.length = nons
  row : ∀ A, A < kk → (vls hs A).length = nn
  val : ∀ A p, A < kk → p < nn → A * nn + p < c → (vls hs A)[p]? = some (.slice (ps (A * nn + p)).1 (m + 1) (ps (A * nn + p)).2)
theorem headP_row {hs : List (List Value)} {ps : Nat → Option Addr × Nat} {nons nn m k : Nat} {l : List Value} (h : HeadP hs ps nons nn m k (k * nn)) (hk : k < nons) (hl : l.length = nn) : HeadP (hs.set k l) ps nons nn m (k + 1) (k * nn + 0) := by
  have hlen := h.len
  refine ⟨by rw [List.length_set]; exact hlen, fun A hA => ?_, fun A p hA hp hc => ?_⟩
  · rw [zeh_ (by omega)]
    split
    · exact hl
    · exact h.row A (by omega)
  · have hne : A ≠ k := fun e => by subst e; omega
    rw [zeh_ (by omega), if_neg hne]
    exact h.val A p (by omega) hp hc
theorem headP_put {hs : List (List Value)} {ps : Nat → Option Addr × Nat} {nons nn m k i d : Nat} {Y : Option Addr} (h : HeadP hs ps nons nn m (k + 1) (k * nn + i)) (hk : k < nons) (hi : i < nn) :
    HeadP (hs.set k ((vls hs k).set i (.slice Y (m + 1) d))) (fun l => if l = k * nn + i then (Y, d) else ps l) nons nn m (k + 1) (k * nn + (i + 1)) := by
  have hlen := h.len
  have hkl := h.row k (by omega)
  refine ⟨by rw [List.length_set]; exact hlen, fun A hA => ?_, fun A p hA hp hc => ?_⟩
  · rw [zeh_ (by omega)]
    split
    · rw [List.length_set]; exact hkl
    · exact h.row A hA
  · rw [zeh_ (by omega)]
    by_cases e : A = k
    · subst e
      rw [if_pos rfl, List.getElem?_set]
      by_cases e2 : i = p
      · subst e2
        simp only [if_true]
        rw [if_pos (by omega)]
      · rw [if_neg e2]
        simp only [show ¬ (A * nn + p = A * nn + i) from by omega, if_false]
        exact h.val A p hA hp (by omega)
    · rw [if_neg e]
      have h2 : (A + 1) * nn ≤ k * nn := Nat.mul_le_mul_right _ (by omega)
      rw [Nat.add_mul] at h2
      simp only [show ¬ (A * nn + p = k * nn + i) from by omega, if_false]
      exact h.val A p hA hp (by omega)
theorem headP_done {hs : List (List Value)} {ps : Nat → Option Addr × Nat} {nons n m : Nat} (h : HeadP hs ps nons (n * n) m nons (nons * (n * n))) : HeadT hs ps nons n m :=
  ⟨h.len, h.row, fun A p hA hp => h.val A p hA hp (by
    have h2 : (A + 1) * (n * n) ≤ nons * (n * n) := Nat.mul_le_mul_right _ hA
    rw [Nat.add_mul] at h2
    omega)⟩
section
variable {P : Program} {k : Value → World → Prop} {w0 w : World} {L : List Thing}
theorem makeHG (H : Apt w0 w L) {t e sz by' : Nat} {z : Value} (ht : P.underlying t = some (.slice e)) (I : Inf P e z sz by') {kl kc : IntKind} {n : Nat} (hm : by' * n ≤ 281474976710656) (hmax : n ≤ 9223372036854775807)
    (h : ∀ b w', Gr w w' → Apt w0 w' (L ++ [rwi e sz (some ⟨b, 0, none⟩) n n (madeCells z.cells (n * sz)).toList]) → k (.slice (some ⟨b, 0, none⟩) n n) w') : Do P (zvc_ t (.int kl n) (.int kc n)) k w :=
  zgr_ ht I hm hmax fun b w' hb hb' g hr => h b w' g (H.addRow g (hr _ (Nat.le_refl _)))
end
theorem ints_rep (n : Nat) : List.replicate n (Value.int .i64 0) = Sh.ints (List.replicate n 0) := by simp [Sh.ints]
end Go.Sh
namespace Go.Proofs.Ytegcjkhebecgbaa
open Go Go.Sh Go.RowKit
set_option maxHeartbeats 1600000 in
theorem l10Sized_c {F : Nat → Prop} {w : World} {v : Value} {gm : Gram} {X : Option Addr} {cx n0 m M : Nat} {ws : List Int} (hM : M = 1000000000) (hv : GramV F w v gm) (hg : zy_ gm = true) (hX : Ints w X ws) (hn : n0 = ws.length) (hl : ws.length ≤ 10) (hw : ∀ x ∈ ws, 0 ≤ x ∧ x ≤ 100) (hm : m ≤ 20) {k : Value → World → Prop}
    (hk : ∀ w' U c nons hs hp ls ps, gm.nons = (nons : Nat) → Apt w w' [vvi 35 27 U c hs hp, fami 3 ls ps] → HeadT hs ps nons (ws.length + 1) m → LeafT ls nons (ws.length + 1) m (fun A i j k => min M (cntC gm.rules ws A i j k)) → k (.slice U nons c) w') :
    CallK Try.prog 333 [v, .slice X n0 cx, .int .i64 m] k w := by
  subst hn
  obtain ⟨Y, cy, rfl, hc, hy⟩ := hv
  have hn6 := ztc_ hg
  have hr16 := zhg_ hg
  have hleft6 := zpi_ hg
  obtain ⟨nons, hnn⟩ : ∃ n : Nat, gm.nons = n := ⟨gm.nons.toNat, by omega⟩
  refine enter333 ?_
  unfold S333
  have H := Apt.nil w
  refine boxH H fun b1 w1 H => ?_
  rw [hnn] at H
  simp only [go_sem, Nat.reduceEqDiff]
  rw [ldB3 (H.box 0 rfl) rfl]
  rw [zj_ (by omega) (by omega)]
  refine makeH H u271 inf35 (by omega) (by omega) fun b2 w2 H => ?_
  rw [show (Value.slice none 0 0).cells = #[.slice none 0 0] from rfl, zyf_] at H
  have H := H.nilVV 1 27 rfl
  simp only [List.nil_append, List.cons_append, List.set_cons_zero, List.set_cons_succ] at H
  have H := H.addFam 3 fun _ => (none, 0)
  simp only [List.nil_append, List.cons_append] at H
  simp only [go_sem, Nat.reduceEqDiff]
  generalize hN : ws.length + 1 = n at *
  have hNi : ((ws.length : Int) + 1) = (n : Int) := by omega
  rw [hNi]
  have hnn11 : n * n ≤ 11 * 11 := Nat.mul_le_mul (by omega) (by omega)
  have hn0 : 0 < n := by omega
  refine zhb_ nons 0 (fun i f w' => i ≤ nons ∧ f 25 = .int .i64 i ∧ ∃ (hs : List (List Value)) (hp ps : Nat → Option Addr × Nat), HeadP hs ps nons (n * n) m i (i * (n * n)) ∧ Apt w w' [bx b1 [.int .i64 nons, .int .i64 gm.toks, .slice Y gm.rules.length cy] 26, vvi 35 27 (some ⟨b2, 0, none⟩) nons hs hp, fami 3 (List.replicate (i * (n * n)) (List.replicate (m + 1) 0)) ps])
    ⟨Nat.zero_le _, rfl, List.replicate nons [], _, _, ⟨List.length_replicate, fun A hA => by omega, fun A p hA => by omega⟩, by rw [Nat.zero_mul]; exact H⟩ ?_
  rintro i f w3 N hag ⟨hi, h25, hs, hp, ps, hP, H⟩ hN'
  have f24 : f 24 = .int .i64 nons := hag 24 (by decide)
  have f7 : f 7 = .int .i64 n := hag 7 (by decide)
  have f8 : f 8 = .slice (some ⟨b2, 0, none⟩) nons nons := hag 8 (by decide)
  have f3 : f 3 = ptrv b1 := hag 3 (by decide)
  have f2 : f 2 = .int .i64 m := hag 2 (by decide)
  have f1 : f 1 = .slice X ws.length cx := hag 1 (by decide)
  simp only [f24, f7, f8, h25, go_sem, Nat.reduceEqDiff]
  by_cases hlt : i < nons
  · simp only [show (i : Int) < nons from by omega, decide_true, go_sem, Nat.reduceEqDiff]
    rw [show (n : Int) * (n : Int) = ((n * n : Nat) : Int) from by push_cast; rfl, zj_ (by omega) (by omega)]
    refine makeH H (n := n * n) u35 zgf_ (by omega) (by omega) fun b3 w4 H => ?_
    rw [show (Value.slice none 0 0).cells = #[.slice none 0 0] from rfl, zyf_] at H
    rw [zxi_ (fun _ => rfl) hlt]
    refine setRowVV H 1 3 i (by decide) rfl rfl (by simp) (by decide) sz35 (by rw [hP.len]; omega) fun w5 hp' H => ?_
    have H := H.erase 3
    simp only [List.nil_append, List.cons_append, List.set_cons_zero, List.set_cons_succ, List.eraseIdx_cons_zero, List.eraseIdx_cons_succ] at H
    have hP := headP_row hP hlt (l := List.replicate (n * n) (.slice none 0 0)) (by simp)
    generalize hs.set i (List.replicate (n * n) (.slice none 0 0)) = hs' at *
    have hil : i < hs'.length := by rw [hP.len]; exact hlt
    have hcell := (H.vv 1 rfl).cell hil
    rw [hP.row i (by omega)] at hcell
    refine rdi (zxi_ (fun _ => rfl) hlt) (rdi (ld35 hcell) ?_)
    simp only [go_sem, Nat.reduceEqDiff]
    refine zhb_ (n * n) 0 (fun a f w' => a ≤ n * n ∧ f 40 = .int .i64 a ∧ ∃ (hs : List (List Value)) (hp ps : Nat → Option Addr × Nat), HeadP hs ps nons (n * n) m (i + 1) (i * (n * n) + a) ∧ Apt w w' [bx b1 [.int .i64 nons, .int .i64 gm.toks, .slice Y gm.rules.length cy] 26, vvi 35 27 (some ⟨b2, 0, none⟩) nons hs hp, fami 3 (List.replicate (i * (n * n) + a) (List.replicate (m + 1) 0)) ps])
      ⟨Nat.zero_le _, rfl, _, _, _, hP, H⟩ ?_
    clear hcell hil hP H
    rintro a g w6 N2 hag2 ⟨ha, h40, hs, hp, ps, hP, H⟩ hN2
    have g39 : g 39 = .int .i64 (n * n : Nat) := hag2 39 (by decide)
    have g8 : g 8 = .slice (some ⟨b2, 0, none⟩) nons nons := (hag2 8 (by decide)).trans f8
    have g9 : g 9 = .int .i64 i := hag2 9 (by decide)
    have g2 : g 2 = .int .i64 m := (hag2 2 (by decide)).trans f2
    have g25 : g 25 = .int .i64 i := (hag2 25 (by decide)).trans h25
    simp only [g39, g8, g9, g2, g25, h40, go_sem, Nat.reduceEqDiff]
    by_cases hla : a < n * n
    case neg =>
      simp only [show ¬ ((a : Int) < ((n * n : Nat) : Int)) from by omega, decide_false, go_sem, Nat.reduceEqDiff]
      rw [zj_ (by omega) (by omega)]
      obtain rfl : a = n * n := by omega
      refine hN' _ _ hlt ⟨hlt, rfl, hs, hp, ps, ?_, ?_⟩
      · rw [Nat.add_mul, Nat.one_mul]
        exact hP
      · rw [Nat.add_mul, Nat.one_mul]
        exact H
    simp only [show ((a : Int) < ((n * n : Nat) : Int)) from by omega, decide_true, go_sem, Nat.reduceEqDiff]
    have hil : i < hs.length := by rw [hP.len]; exact hlt
    have H := H.drew
    have hcell := (H.vv 1 rfl).cell hil
    have hown := (H.vv 1 rfl).own i hil
    have hrl := hP.row i (by omega)
    rw [hrl] at hcell hown
    refine ⟨fun w' => Gr w6.drew w', Gr.refl _, ?_⟩
    refine rdi (zxi_ (fun _ => rfl) hlt) (rdi (ldS35 fun w' g' => g'.cell hcell) ?_)
    simp only [go_sem, Nat.reduceEqDiff]
    rw [zj_ (by omega) (by omega), show (m : Int) + 1 = ((m + 1 : Nat) : Int) from rfl]
    refine makeHG H (n := m + 1) u27 inf3 (by omega) (by omega) fun b4 w7 g7 H' => ?_
    refine ⟨g7, ?_⟩
    rw [show (Value.int .i64 0).cells = #[.int .i64 0] from rfl, zyf_, ints_rep] at H'
    refine rdi (zce_ (fun h => hown.ptr (by omega)) hla) ?_
    refine storeVV H' 1 i (m := a) rfl (by decide) sz27 rfl rfl hil (by omega) fun w8 H => ?_
    simp only [List.nil_append, List.cons_append, List.set_cons_zero, List.set_cons_succ] at H
    have H := H.famPush (i := 2) (j := 3) (by decide) (ys := List.replicate (m + 1) 0) rfl (by rw [List.length_replicate]; rfl)
    have H := H.erase 3
    simp only [List.nil_append, List.cons_append, List.set_cons_zero, List.set_cons_succ, List.eraseIdx_cons_zero, List.eraseIdx_cons_succ, List.length_replicate] at H
    rw [← List.replicate_succ'] at H
    rw [zj_ (by omega) (by omega)]
    exact hN2 _ _ hla ⟨hla, rfl, _, _, _, headP_put hP hlt hla, H⟩
  have hin : i = nons := by omega
  simp only [show ¬ ((i : Int) < nons) from by omega, decide_false, go_sem, Nat.reduceEqDiff]
  subst hin
  have hh := headP_done hP
  have hlf := (leafT_zero (nons := i) (n := n) (m := m)).congr (t' := zic_ M gm.rules ws 1 0 0 0) fun A i' j' k' _ _ _ _ => fillT_start
  clear hN' h25 hi hlt hP
  generalize List.replicate (i * (n * n)) (List.replicate (m + 1) (0 : Int)) = ls at *
  refine zhb_ m 0 (fun s f w' => s ≤ m ∧ f 11 = .int .i64 ((s + 1 : Nat) : Int) ∧ ∃ ls, LeafT ls i n m (zic_ M gm.rules ws (s + 1) 0 0 0) ∧ Apt w w' [bx b1 [.int .i64 i, .int .i64 gm.toks, .slice Y gm.rules.length cy] 26, vvi 35 27 (some ⟨b2, 0, none⟩) i hs hp, fami 3 ls ps])
    ⟨Nat.zero_le _, rfl, _, hlf, H⟩ ?_
  clear hlf
  rintro s g0 w6 N2 hag2 ⟨hs1, h11, ls, hlf, H⟩ hN2
  have c2 : g0 2 = .int .i64 m := (hag2 2 (by decide)).trans f2
  have c3 : g0 3 = ptrv b1 := (hag2 3 (by decide)).trans f3
  have c8 : g0 8 = .slice (some ⟨b2, 0, none⟩) i i := (hag2 8 (by decide)).trans f8
  have c7 : g0 7 = .int .i64 n := (hag2 7 (by decide)).trans f7
  have c1 : g0 1 = .slice X ws.length cx := (hag2 1 (by decide)).trans f1
  simp only [c2, c3, h11, go_sem, Nat.reduceEqDiff]
  by_cases hlm : s < m
  case neg =>
    simp only [show ¬ (((s + 1 : Nat) : Int) ≤ (m : Int)) from by omega, decide_false, go_sem, Nat.reduceEqDiff]
    obtain rfl : s = m := by omega
    rw [c8]
    refine hk _ _ _ i hs hp ls ps hnn (H.erase 0) hh (hlf.congr fun A i' j' k' _ _ _ hk' => (zpt_ (by omega)).symm)
  simp only [show (((s + 1 : Nat) : Int) ≤ (m : Int)) from by omega, decide_true, go_sem, Nat.reduceEqDiff]
  rw [zuf_ (H.box 0 rfl) rfl]
  simp only [go_sem, Nat.reduceEqDiff]
  refine zhb_ gm.rules.length 0 (fun q f w' => q ≤ gm.rules.length ∧ f 62 = .int .i64 q ∧ ∃ ls, LeafT ls i n m (zic_ M gm.rules ws (s + 1) q 0 0) ∧ Apt w w' [bx b1 [.int .i64 i, .int .i64 gm.toks, .slice Y gm.rules.length cy] 26, vvi 35 27 (some ⟨b2, 0, none⟩) i hs hp, fami 3 ls ps])
    ⟨Nat.zero_le _, rfl, _, hlf, H⟩ ?_
  clear hlf
  rintro q g1 w7 N3 hag3 ⟨hq, h62, ls, hlf, H⟩ hN3
  have e60 : g1 60 = .slice Y gm.rules.length cy := hag3 60 (by decide)
  have e61 : g1 61 = .int .i64 gm.rules.length := hag3 61 (by decide)
  have e11 : g1 11 = .int .i64 ((s + 1 : Nat) : Int) := (hag3 11 (by decide)).trans h11
  have e7 : g1 7 = .int .i64 n := (hag3 7 (by decide)).trans c7
  have e8 : g1 8 = .slice (some ⟨b2, 0, none⟩) i i := (hag3 8 (by decide)).trans c8
  have e1 : g1 1 = .slice X ws.length cx := (hag3 1 (by decide)).trans c1
  simp only [e60, e61, e11, h62, go_sem, Nat.reduceEqDiff]
  by_cases hlq : q < gm.rules.length
  case neg =>
    simp only [show ¬ ((q : Int) < gm.rules.length) from by omega, decide_false, go_sem, Nat.reduceEqDiff]
    obtain rfl : q = gm.rules.length := by omega
    rw [zj_ (by omega) (by omega)]
    exact hN2 _ _ hlm ⟨by omega, by show Value.int .i64 (((s + 1 : Nat) : Int) + 1) = _; congr 1, ls, hlf.congr fun A i' j' k' _ _ _ _ => fillT_size (by omega), H⟩
  simp only [show ((q : Int) < gm.rules.length) from by omega, decide_true, go_sem, Nat.reduceEqDiff]
  obtain ⟨Z, cz, t1, t2, t3, t4⟩ := hy.row q hlq
  have hleft := zig_ hg hlq
  have hright := zmi_ hg hlq
  have hR4 := zwd_ hg q hlq
  obtain ⟨xl, hxl⟩ : ∃ x : Nat, (rul gm.rules q).1 = x := ⟨(rul gm.rules q).1.toNat, by omega⟩
  rw [hxl] at t1 hleft
  rw [zwe_ hy.ptr hlq, zfi_ zbe_ sz33 (cs := [.int .i64 xl, .slice Z (rul gm.rules q).2.length cz]) rfl (fun j hj => by
    match j, hj with
    | 0, _ => rw [zhc_, Nat.add_zero]; exact H.gr.cell t1
    | 1, _ => rw [zhc_]; exact H.gr.cell t2)]
  refine zid_ H zhd_ fun b3 w8 H => ?_
  refine zyb_ H 3 rfl sz33 rfl rfl rfl fun w9 H => ?_
  simp only [List.nil_append, List.cons_append, List.set_cons_zero, List.set_cons_succ] at H
  refine zhb_ n 0 (fun a f w' => a ≤ n ∧ f 14 = .int .i64 a ∧ ∃ ls, LeafT ls i n m (zic_ M gm.rules ws (s + 1) q a 0) ∧ Apt w w' [bx b1 [.int .i64 i, .int .i64 gm.toks, .slice Y gm.rules.length cy] 26, vvi 35 27 (some ⟨b2, 0, none⟩) i hs hp, fami 3 ls ps, bx b3 [.int .i64 xl, .slice Z (rul gm.rules q).2.length cz] 33])
    ⟨Nat.zero_le _, rfl, _, hlf, H⟩ ?_
  clear hlf
  rintro a g2 w10 N4 hag4 ⟨ha, h14, ls, hlf, H⟩ hN4
  have k7 : g2 7 = .int .i64 n := (hag4 7 (by decide)).trans e7
  have k8 : g2 8 = .slice (some ⟨b2, 0, none⟩) i i := (hag4 8 (by decide)).trans e8
  have k1 : g2 1 = .slice X ws.length cx := (hag4 1 (by decide)).trans e1
  have k13 : g2 13 = ptrv b3 := hag4 13 (by decide)
  have k62 : g2 62 = .int .i64 q := (hag4 62 (by decide)).trans h62
  have k11 : g2 11 = .int .i64 ((s + 1 : Nat) : Int) := (hag4 11 (by decide)).trans e11
  simp only [k7, h14, k62, go_sem, Nat.reduceEqDiff]
  by_cases hla : a < n
  case neg =>
    simp only [show ¬ ((a : Int) < n) from by omega, decide_false, go_sem, Nat.reduceEqDiff]
    rw [zj_ (by omega) (by omega)]
    obtain rfl : a = n := by omega
    exact hN3 _ _ hlq ⟨hlq, rfl, ls, hlf.congr fun A i' j' k' _ hi' _ _ => fillT_rule hlq hi', H.take 3⟩
  simp only [show ((a : Int) < n) from by omega, decide_true, go_sem, Nat.reduceEqDiff]
  refine zhb_ n a (fun b f w' => a ≤ b ∧ b ≤ n ∧ f 15 = .int .i64 b ∧ ∃ ls, LeafT ls i n m (zic_ M gm.rules ws (s + 1) q a b) ∧ Apt w w' [bx b1 [.int .i64 i, .int .i64 gm.toks, .slice Y gm.rules.length cy] 26, vvi 35 27 (some ⟨b2, 0, none⟩) i hs hp, fami 3 ls ps, bx b3 [.int .i64 xl, .slice Z (rul gm.rules q).2.length cz] 33])
    ⟨Nat.le_refl _, by omega, rfl, _, hlf.congr fun A i' j' k' _ _ _ _ => fillT_col, H⟩ ?_
  clear hlf
  rintro b g3 w11 N5 hag5 ⟨hb1, hb2, h15, ls, hlf, H⟩ hN5
  have m7 : g3 7 = .int .i64 n := (hag5 7 (by decide)).trans k7
  have m8 : g3 8 = .slice (some ⟨b2, 0, none⟩) i i := (hag5 8 (by decide)).trans k8
  have m1 : g3 1 = .slice X ws.length cx := (hag5 1 (by decide)).trans k1
  have m13 : g3 13 = ptrv b3 := (hag5 13 (by decide)).trans k13
  have m14 : g3 14 = .int .i64 a := (hag5 14 (by decide)).trans h14
  have m11 : g3 11 = .int .i64 ((s + 1 : Nat) : Int) := (hag5 11 (by decide)).trans k11
  simp only [m7, m8, m1, m13, m14, m11, h15, go_sem, Nat.reduceEqDiff]
  by_cases hlb : b < n
  case neg =>
    simp only [show ¬ ((b : Int) < n) from by omega, decide_false, go_sem, Nat.reduceEqDiff]
    rw [zj_ (by omega) (by omega)]
    obtain rfl : b = n := by omega
    exact hN4 _ _ hla ⟨hla, rfl, ls, hlf.congr fun A i' j' k' _ _ hj' _ => fillT_row hj', H⟩
  simp only [show ((b : Int) < n) from by omega, decide_true, go_sem, Nat.reduceEqDiff]
  have hxn : xl < i := by omega
  have hab := zff_ (n := n) (show a < n by omega) hlb
  have hab' : (a : Int) * (n : Int) = ((a * n : Nat) : Int) := by push_cast; rfl
  have hidx : IntKind.i64.wrap (IntKind.i64.wrap ((a : Int) * (n : Int)) + (b : Int)) = ((a * n + b : Nat) : Int) := by
    rw [hab', zj_ (n := ((a * n : Nat) : Int)) (by omega) (by omega), zj_ (by omega) (by omega)]
    rfl
  have o := H.vv 1 rfl
  have fm := H.fam 2 rfl
  rw [hidx, ldB3 (H.box 3 rfl) rfl]
  refine rdi (zxi_ (fun _ => rfl) hxn) (rdi (ld35 (zfm_ o hh hxn)) (rdi (zce_ (fun _ => zdr_ o hh hxn hn0) hab) (rdi (ld27 (zgm_ o hh hxn hla hlb)) (rdi (zub_ (fun _ => zer_ fm hlf hxn hla hlb) (by omega)) (rdi (ld3 (zgv_ fm hlf hxn hla hlb (by omega))) ?_)))))
  simp only [go_sem, Nat.reduceEqDiff]
  have H := H.drew
  have o := H.vv 1 rfl
  have fm := H.fam 2 rfl
  have hT := tabR_of o fm hh hlf hn0
  refine ⟨fun w' => Gr w11.drew w', Gr.refl _, ?_⟩
  refine rdi (rdG one3 (H.box 3 rfl) rfl) ?_
  refine rdi (zxi_ (fun _ => rfl) hxn) (rdi (ldS35 fun w' g' => g'.cell (zfm_ o hh hxn)) ?_)
  simp only [go_sem, Nat.reduceEqDiff]
  refine rdi (zce_ (fun _ => zdr_ o hh hxn hn0) hab) (rdi (ldS27 fun w' g' => g'.cell (zgm_ o hh hxn hla hlb)) ?_)
  refine rdi (rdG one27 (H.box 3 rfl) rfl) ?_
  rw [zj_ (by omega) (by omega), show ((s + 1 : Nat) : Int) - 1 = (s : Int) from by omega]
  rw [← hN] at hT hlf
  refine zcr_ (c := cntC gm.rules ws) hM hT (hX.gr H.gr) hl hw (by omega) hm (t4.is.gr H.gr) t3 (by omega) (fun x hx => by have := hright x hx; omega) (by omega) (by omega) (by omega) (fun A i' j' k' hk' => zpt_ (by omega)) fun y hy => ?_
  rw [hN] at hlf
  refine ⟨Gr.refl _, ?_⟩
  have hle : zic_ M gm.rules ws (s + 1) q a b xl a b (s + 1) ≤ M := by
    unfold zic_
    rw [if_neg (by omega), if_pos rfl]
    exact Nat.min_le_left _ _
  simp only [go_sem, Nat.reduceEqDiff]
  rw [zj_ (by omega) (by omega)]
  rw [show ((zic_ M gm.rules ws (s + 1) q a b xl a b (s + 1) : Nat) : Int) + (y : Int) = ((zic_ M gm.rules ws (s + 1) q a b xl a b (s + 1) + y : Nat) : Int) from by push_cast; rfl]
  have hat := fillT_at (M := M) (ws := ws) (s := s + 1) (a := a) (b := b) hxl
  rw [show s + 1 - 1 = s from rfl, ← hy] at hat
  refine l10Cap_c hM hat ?_
  refine ⟨Gr.refl _, ?_⟩
  refine rdi (zub_ (fun _ => zer_ fm hlf hxn hla hlb) (by omega)) ?_
  refine famPut H 2 (idxT n xl a b) (m := s + 1) rfl (by rw [hlf.len]; exact zui_ hxn hla hlb) (by rw [hlf.row xl a b hxn hla hlb]; omega) fun w12 H => ?_
  simp only [List.nil_append, List.cons_append, List.set_cons_zero, List.set_cons_succ] at H
  simp only [go_sem, Nat.reduceEqDiff]
  rw [zj_ (n := (b : Int) + 1) (by omega) (by omega)]
  exact hN5 _ _ hlb ⟨by omega, hlb, rfl, _, hlf.put hxn hla hlb (by omega) rfl fun A' i' j' k' _ _ _ _ hne => fillT_step hxl hne, H⟩
end Go.Proofs.Ytegcjkhebecgbaa

namespace Go.Sh
open Go
def capM : Nat := 1000000000
end Go.Sh
namespace Go.Proofs.Ytegcjkhebecgbaa
open Go Go.Sh Go.RowKit
end Go.Proofs.Ytegcjkhebecgbaa

namespace Go.Sh
open Go
structure EnvT (gm : Gram) (ws : List Int) (m nons bc : Nat) (Y : Option Addr) (cy : Nat) (X : Option Addr) (cx : Nat) (U : Option Addr) (cu : Nat) (w : World) : Prop where
  box : Box w bc [.int .i64 gm.nons, .int .i64 gm.toks, .slice Y gm.rules.length cy, .slice X ws.length cx, .slice U nons cu] 274
  hc : gm.rules.length ≤ cy
  hy : RulesF (fun _ => True) w Y gm.rules
  hX : Ints w X ws
  tab : TabR w U nons (ws.length + 1) m fun A i j k => min capM (cntC gm.rules ws A i j k)
theorem EnvT.gr {gm : Gram} {ws : List Int} {m nons bc cy cx cu : Nat} {Y X U : Option Addr} {w w' : World} (h : EnvT gm ws m nons bc Y cy X cx U cu w) (g : Gr w w') : EnvT gm ws m nons bc Y cy X cx U cu w' := ⟨h.box.gr g, h.hc, h.hy.gr g, h.hX.gr g, h.tab.gr g⟩
end Go.Sh
namespace Go.Proofs.Ytegcjkhebecgbaa
open Go Go.Sh Go.RowKit
section
variable {gm : Gram} {ws : List Int} {m nons bc cy cx cu : Nat} {Y X U : Option Addr}
set_option maxHeartbeats 6400000 in
theorem l11Row_of (hg : zy_ gm = true) (hl : ws.length ≤ 10) (hw : ∀ t ∈ ws, 0 ≤ t ∧ t ≤ 100) (hnn : gm.nons = (nons : Nat)) (hm : m ≤ 12) {N : Nat} (hNm : N ≤ m)
    (hTrees : ∀ {w : World} {A i j s M : Nat} {k : Value → World → Prop}, EnvT gm ws m nons bc Y cy X cx U cu w → s ≤ N → A < nons → i ≤ j → j ≤ ws.length → 0 < M → M ≤ 60 → (∀ w' X' c' ls ps, Gr w w' → OwnSS 27 3 w' w.heap.size X' c' ls ps → Firsts M (Der gm.rules ws (.inl A) i j s) ls → k (.slice X' ls.length c') w') →
      CallK Try.prog 334 [ptrv bc, .int .i64 A, .int .i64 i, .int .i64 j, .int .i64 s, .int .i64 (M : Int)] k w) :
    ∀ (xs : List Int) {w : World} {R : Option Addr} {cr i j s M : Nat} {k : Value → World → Prop}, EnvT gm ws m nons bc Y cy X cx U cu w → Ints w R xs → xs.length ≤ cr → xs.length ≤ 4 → (∀ x ∈ xs, -100 ≤ x ∧ x < nons) → i ≤ j → j ≤ ws.length → s ≤ N → 0 < M → M ≤ 60 → (∀ w' X' c' ls, Gr w w' → IssF (fun b => w.heap.size ≤ b) w' X' ls → ls.length ≤ c' → Firsts M (Der gm.rules ws (.inr xs) i j s) ls → k (.slice X' ls.length c') w') →
      CallK Try.prog 348 [ptrv bc, .slice R xs.length cr, .int .i64 i, .int .i64 j, .int .i64 s, .int .i64 (M : Int)] k w := by
  have hn6 := ztc_ hg
  intro xs
  induction xs with
  | nil =>
    intro w R cr i j s M k hE hR hcr h4 hx hij hj hsN hM hM60 hk
    refine enter348 ?_
    unfold S348
    have E := hE.gr (zcb_ w)
    simp only [zq18, zq19, zq20, zq21, zq22, zq23, zq24, zq25, zq26, zq27, zq28, zq4, zq3, zq1, zq2, zq0, zq29, zq30, zq14, zq15, zq16, zq17, zq13, zq10, zq12, zq11, zq7, zq5, zq6, zq9, zq8, zq31, zq32, ite_T, ite_F, zq33, zq34, zq35, len27, len24, len35, fa26_0, fa26_1, fa26_2, fa33_0, fa33_1, fa124_0, fa124_1, fa274_0, fa274_1, fa274_2, Nat.reduceEqDiff]
    refine rdi (ldB271 E.box rfl) (rdi (zrd_ E.box rfl) ?_)
    refine zcr_ (M := capM) rfl E.tab E.hX hl hw (by omega) (by omega) (xs := []) (hR.gr (zcb_ w)) (by simp) (by simp) (fun x hx => by simp at hx) (by omega) hj (by omega) (fun A i j k _ => rfl) fun y hy => ?_
    by_cases h0 : i = j ∧ s = 0
    · have hy1 : y = 1 := by
        rw [hy, cntR, if_pos h0]
        rfl
      subst hy1
      simp only [show ¬ (((1 : Nat) : Int) = 0) from by omega, show ¬ ((M : Int) ≤ 0) from by omega, decide_false, List.length_nil, show (((0 : Nat) : Int) = 0) from rfl, decide_true, zq18, zq19, zq20, zq21, zq22, zq23, zq24, zq25, zq26, zq27, zq28, zq4, zq3, zq1, zq2, zq0, zq29, zq30, zq14, zq15, zq16, zq17, zq13, zq10, zq12, zq11, zq7, zq5, zq6, zq9, zq8, zq31, zq32, ite_T, ite_F, zq33, zq34, zq35, len27, len24, len35, fa26_0, fa26_1, fa26_2, fa33_0, fa33_1, fa124_0, fa124_1, fa274_0, fa274_1, fa274_2, Nat.reduceEqDiff]
      have H := Apt.nil w.drew
      refine zjd_ H u35 zgf_ [.slice none 0 0] (by decide) (by decide) (by simp [Instr.fill, madeCells, Value.cells, rng1]) rfl fun b1 w1 H => ?_
      simp only [List.nil_append] at H
      have hr := H.row 0 rfl
      exact hk w1 _ 1 [[]] (zf_ (zcb_ w) H.gr) (IssF.of hr.src (Slots.single (x := []) (Nat.le_refl _) (IntsF.nil _ _)) (by simp) fun _ => row_foot hr (by omega)) (by simp) (der_row0 hM h0)
    · have hy0 : y = 0 := by
        rw [hy, cntR, if_neg h0]
        rfl
      subst hy0
      simp only [show (((0 : Nat) : Int) = 0) from rfl, decide_true, zq18, zq19, zq20, zq21, zq22, zq23, zq24, zq25, zq26, zq27, zq28, zq4, zq3, zq1, zq2, zq0, zq29, zq30, zq14, zq15, zq16, zq17, zq13, zq10, zq12, zq11, zq7, zq5, zq6, zq9, zq8, zq31, zq32, ite_T, ite_F, zq33, zq34, zq35, len27, len24, len35, fa26_0, fa26_1, fa26_2, fa33_0, fa33_1, fa124_0, fa124_1, fa274_0, fa274_1, fa274_2, Nat.reduceEqDiff]
      refine hk _ none 0 [] (zcb_ w) (IssF.nil _ _) (Nat.le_refl _) (Firsts.nil _ fun x hx => h0 ?_)
      have := der_nil.1 hx
      exact ⟨this.1, this.2.1⟩
  | cons x xs ih =>
    intro w R cr i j s M k hE hR hcr h4 hx hij hj hsN hM hM60 hk
    refine enter348 ?_
    unfold S348
    have hxx := hx x (List.mem_cons_self ..)
    have hx' : ∀ y ∈ xs, -100 ≤ y ∧ y < nons := fun y hy => hx y (List.mem_cons_of_mem _ hy)
    have E := hE.gr (zcb_ w)
    have hcr' := hcr
    have h4' := h4
    rw [List.length_cons] at hcr h4
    have hsub := hR.sub (l := 1) (c := cr) (by simp) (by simp; omega) xs.length
    rw [List.drop_one, List.tail_cons, List.take_length] at hsub
    simp only [zq18, zq19, zq20, zq21, zq22, zq23, zq24, zq25, zq26, zq27, zq28, zq4, zq3, zq1, zq2, zq0, zq29, zq30, zq14, zq15, zq16, zq17, zq13, zq10, zq12, zq11, zq7, zq5, zq6, zq9, zq8, zq31, zq32, ite_T, ite_F, zq33, zq34, zq35, len27, len24, len35, fa26_0, fa26_1, fa26_2, fa33_0, fa33_1, fa124_0, fa124_1, fa274_0, fa274_1, fa274_2, Nat.reduceEqDiff]
    refine rdi (ldB271 E.box rfl) (rdi (zrd_ E.box rfl) ?_)
    refine zcr_ (M := capM) rfl E.tab E.hX hl hw (by omega) (by omega) (xs := x :: xs) (hR.gr (zcb_ w)) hcr' (by omega) hx (by omega) hj (by omega) (fun A i j k _ => rfl) fun y hy => ?_
    by_cases hy0 : y = 0
    · subst hy0
      simp only [show (((0 : Nat) : Int) = 0) from rfl, decide_true, zq18, zq19, zq20, zq21, zq22, zq23, zq24, zq25, zq26, zq27, zq28, zq4, zq3, zq1, zq2, zq0, zq29, zq30, zq14, zq15, zq16, zq17, zq13, zq10, zq12, zq11, zq7, zq5, zq6, zq9, zq8, zq31, zq32, ite_T, ite_F, zq33, zq34, zq35, len27, len24, len35, fa26_0, fa26_1, fa26_2, fa33_0, fa33_1, fa124_0, fa124_1, fa274_0, fa274_1, fa274_2, Nat.reduceEqDiff]
      refine hk _ none 0 [] (zcb_ w) (IssF.nil _ _) (Nat.le_refl _) (Firsts.nil _ fun t ht => ?_)
      have := der_posR ht
      unfold capM at hy
      omega
    simp only [show ¬ ((y : Int) = 0) from by omega, show ¬ ((M : Int) ≤ 0) from by omega, decide_false, show ¬ (((x :: xs).length : Int) = 0) from by rw [List.length_cons]; omega, zq18, zq19, zq20, zq21, zq22, zq23, zq24, zq25, zq26, zq27, zq28, zq4, zq3, zq1, zq2, zq0, zq29, zq30, zq14, zq15, zq16, zq17, zq13, zq10, zq12, zq11, zq7, zq5, zq6, zq9, zq8, zq31, zq32, ite_T, ite_F, zq33, zq34, zq35, len27, len24, len35, fa26_0, fa26_1, fa26_2, fa33_0, fa33_1, fa184_0, fa184_1, fa124_0, fa124_1, fa200_0, fa200_1, fa200_2, fa200_3, fa274_0, fa274_1, fa274_2, Nat.reduceEqDiff]
    refine rdi (zvd_ hR.ptr (by simp)) (rdi (ld3 ((hR.gr (zcb_ w)).cell 0 (by simp))) ?_)
    simp only [List.getD_cons_zero, zq18, zq19, zq20, zq21, zq22, zq23, zq24, zq25, zq26, zq27, zq28, zq4, zq3, zq1, zq2, zq0, zq29, zq30, zq14, zq15, zq16, zq17, zq13, zq10, zq12, zq11, zq7, zq5, zq6, zq9, zq8, zq31, zq32, ite_T, ite_F, zq33, zq34, zq35, len27, len24, len35, fa26_0, fa26_1, fa26_2, fa33_0, fa33_1, fa124_0, fa124_1, fa274_0, fa274_1, fa274_2, Nat.reduceEqDiff]
    by_cases hx0 : x < 0
    · simp only [hx0, decide_true, zq18, zq19, zq20, zq21, zq22, zq23, zq24, zq25, zq26, zq27, zq28, zq4, zq3, zq1, zq2, zq0, zq29, zq30, zq14, zq15, zq16, zq17, zq13, zq10, zq12, zq11, zq7, zq5, zq6, zq9, zq8, zq31, zq32, ite_T, ite_F, zq33, zq34, zq35, len27, len24, len35, fa26_0, fa26_1, fa26_2, fa33_0, fa33_1, fa124_0, fa124_1, fa274_0, fa274_1, fa274_2, Nat.reduceEqDiff]
      have hij' : i < j ∧ ws.getD i 0 = -1 - x := by
        by_cases h : i < j ∧ ws.getD i 0 = -1 - x
        · exact h
        · exfalso
          rw [cntR, if_pos hx0, if_neg h] at hy
          omega
      refine rdi (sll27 (by omega) (by rw [List.length_cons]; omega)) ?_
      rw [zj_ (by omega) (by omega)]
      refine ih (i := i + 1) E (hsub.gr (zcb_ w)) (by show xs.length ≤ cr - 1; omega) (by omega) hx' (by omega) hj hsN hM hM60 fun w2 X2 c2 ls g2 h2 h3 h4 => ?_
      exact hk _ _ _ _ (zf_ (zcb_ w) g2) (h2.mono fun b hb => hb) h3 (h4.congr fun t => (der_tok hx0).trans ⟨fun h => h.2.2, fun h => ⟨hij'.1, hij'.2, h⟩⟩)
    simp only [hx0, decide_false, zq18, zq19, zq20, zq21, zq22, zq23, zq24, zq25, zq26, zq27, zq28, zq4, zq3, zq1, zq2, zq0, zq29, zq30, zq14, zq15, zq16, zq17, zq13, zq10, zq12, zq11, zq7, zq5, zq6, zq9, zq8, zq31, zq32, ite_T, ite_F, zq33, zq34, zq35, len27, len24, len35, fa26_0, fa26_1, fa26_2, fa33_0, fa33_1, fa124_0, fa124_1, fa274_0, fa274_1, fa274_2, Nat.reduceEqDiff]
    obtain ⟨A, rfl⟩ : ∃ A : Nat, x = A := ⟨x.toNat, by omega⟩
    refine zhb_ (j + 1 - i) 0 (fun q f w' => q ≤ j + 1 - i ∧ f 14 = .int .i64 ((i + q : Nat) : Int) ∧ ∃ X' c', ∃ ls : List (List Int), f 13 = .slice X' ls.length c' ∧ Gr w w' ∧ IssF (fun b => w.heap.size ≤ b) w' X' ls ∧ ls.length ≤ c' ∧ Firsts M (SeenD gm.rules ws (A : Int) xs i j s q 0) ls)
      ⟨Nat.zero_le _, rfl, none, 0, [], rfl, zcb_ w, IssF.nil _ _, Nat.le_refl _, Firsts.nil _ fun t => seen_none⟩ ?_
    rintro q f w1 NN hag ⟨hq, h14, X1, c1, ls, h13, g1, hS, hlc, hF⟩ hN
    have f0 : f 0 = ptrv bc := hag 0 (by decide)
    have f1 : f 1 = .slice R (((A : Int) :: xs).length) cr := hag 1 (by decide)
    have f2 : f 2 = .int .i64 i := hag 2 (by decide)
    have f3 : f 3 = .int .i64 j := hag 3 (by decide)
    have f4 : f 4 = .int .i64 s := hag 4 (by decide)
    have f5 : f 5 = .int .i64 (M : Int) := hag 5 (by decide)
    simp only [f3, h14, zq18, zq19, zq20, zq21, zq22, zq23, zq24, zq25, zq26, zq27, zq28, zq4, zq3, zq1, zq2, zq0, zq29, zq30, zq14, zq15, zq16, zq17, zq13, zq10, zq12, zq11, zq7, zq5, zq6, zq9, zq8, zq31, zq32, ite_T, ite_F, zq33, zq34, zq35, len27, len24, len35, fa26_0, fa26_1, fa26_2, fa33_0, fa33_1, fa124_0, fa124_1, fa274_0, fa274_1, fa274_2, Nat.reduceEqDiff]
    by_cases hle : i + q ≤ j
    case neg =>
      simp only [show ¬ (((i + q : Nat) : Int) ≤ j) from by omega, decide_false, zq18, zq19, zq20, zq21, zq22, zq23, zq24, zq25, zq26, zq27, zq28, zq4, zq3, zq1, zq2, zq0, zq29, zq30, zq14, zq15, zq16, zq17, zq13, zq10, zq12, zq11, zq7, zq5, zq6, zq9, zq8, zq31, zq32, ite_T, ite_F, zq33, zq34, zq35, len27, len24, len35, fa26_0, fa26_1, fa26_2, fa33_0, fa33_1, fa124_0, fa124_1, fa274_0, fa274_1, fa274_2, Nat.reduceEqDiff]
      rw [h13]
      exact hk _ _ _ _ g1 hS hlc (hF.congr fun t => seen_all hx0 (by omega))
    simp only [show (((i + q : Nat) : Int) ≤ j) from by omega, decide_true, zq18, zq19, zq20, zq21, zq22, zq23, zq24, zq25, zq26, zq27, zq28, zq4, zq3, zq1, zq2, zq0, zq29, zq30, zq14, zq15, zq16, zq17, zq13, zq10, zq12, zq11, zq7, zq5, zq6, zq9, zq8, zq31, zq32, ite_T, ite_F, zq33, zq34, zq35, len27, len24, len35, fa26_0, fa26_1, fa26_2, fa33_0, fa33_1, fa124_0, fa124_1, fa274_0, fa274_1, fa274_2, Nat.reduceEqDiff]
    refine zhb_ s 0 (fun kk f w' => kk ≤ s ∧ f 15 = .int .i64 ((kk + 1 : Nat) : Int) ∧ f 14 = .int .i64 ((i + q : Nat) : Int) ∧ ∃ X' c', ∃ ls : List (List Int), f 13 = .slice X' ls.length c' ∧ Gr w w' ∧ IssF (fun b => w.heap.size ≤ b) w' X' ls ∧ ls.length ≤ c' ∧ Firsts M (SeenD gm.rules ws (A : Int) xs i j s q kk) ls)
      ⟨Nat.zero_le _, rfl, h14, X1, c1, ls, h13, g1, hS, hlc, hF⟩ ?_
    clear hF hS hlc h13 ls c1 X1
    rintro kk g w2 N2 hag2 ⟨hkk, h15, h14, X1, c1, ls, h13, g2, hS, hlc, hF⟩ hN2
    have a0 : g 0 = ptrv bc := (hag2 0 (by decide)).trans f0
    have a1 : g 1 = .slice R (((A : Int) :: xs).length) cr := (hag2 1 (by decide)).trans f1
    have a2 : g 2 = .int .i64 i := (hag2 2 (by decide)).trans f2
    have a3 : g 3 = .int .i64 j := (hag2 3 (by decide)).trans f3
    have a4 : g 4 = .int .i64 s := (hag2 4 (by decide)).trans f4
    have a5 : g 5 = .int .i64 (M : Int) := (hag2 5 (by decide)).trans f5
    simp only [a4, h15, zq18, zq19, zq20, zq21, zq22, zq23, zq24, zq25, zq26, zq27, zq28, zq4, zq3, zq1, zq2, zq0, zq29, zq30, zq14, zq15, zq16, zq17, zq13, zq10, zq12, zq11, zq7, zq5, zq6, zq9, zq8, zq31, zq32, ite_T, ite_F, zq33, zq34, zq35, len27, len24, len35, fa26_0, fa26_1, fa26_2, fa33_0, fa33_1, fa124_0, fa124_1, fa274_0, fa274_1, fa274_2, Nat.reduceEqDiff]
    by_cases hlk : kk < s
    case neg =>
      simp only [show ¬ (((kk + 1 : Nat) : Int) ≤ s) from by omega, decide_false, zq18, zq19, zq20, zq21, zq22, zq23, zq24, zq25, zq26, zq27, zq28, zq4, zq3, zq1, zq2, zq0, zq29, zq30, zq14, zq15, zq16, zq17, zq13, zq10, zq12, zq11, zq7, zq5, zq6, zq9, zq8, zq31, zq32, ite_T, ite_F, zq33, zq34, zq35, len27, len24, len35, fa26_0, fa26_1, fa26_2, fa33_0, fa33_1, fa124_0, fa124_1, fa274_0, fa274_1, fa274_2, Nat.reduceEqDiff]
      simp only [h14, zq18, zq19, zq20, zq21, zq22, zq23, zq24, zq25, zq26, zq27, zq28, zq4, zq3, zq1, zq2, zq0, zq29, zq30, zq14, zq15, zq16, zq17, zq13, zq10, zq12, zq11, zq7, zq5, zq6, zq9, zq8, zq31, zq32, ite_T, ite_F, zq33, zq34, zq35, len27, len24, len35, fa26_0, fa26_1, fa26_2, fa33_0, fa33_1, fa124_0, fa124_1, fa274_0, fa274_1, fa274_2, Nat.reduceEqDiff]
      rw [zj_ (by omega) (by omega)]
      obtain rfl : kk = s := by omega
      exact hN _ _ (by omega) ⟨by omega, by show Value.int .i64 (((i + q : Nat) : Int) + 1) = _; congr 1, X1, c1, ls, h13, g2, hS, hlc, hF.congr fun t => seen_row⟩
    simp only [show (((kk + 1 : Nat) : Int) ≤ s) from by omega, decide_true, zq18, zq19, zq20, zq21, zq22, zq23, zq24, zq25, zq26, zq27, zq28, zq4, zq3, zq1, zq2, zq0, zq29, zq30, zq14, zq15, zq16, zq17, zq13, zq10, zq12, zq11, zq7, zq5, zq6, zq9, zq8, zq31, zq32, ite_T, ite_F, zq33, zq34, zq35, len27, len24, len35, fa26_0, fa26_1, fa26_2, fa33_0, fa33_1, fa124_0, fa124_1, fa274_0, fa274_1, fa274_2, Nat.reduceEqDiff]
    refine zmd_ (fun g w' => g 15 = .int .i64 ((kk + 1 : Nat) : Int) ∧ g 14 = .int .i64 ((i + q : Nat) : Int) ∧ ∃ X' c', ∃ ls : List (List Int), g 13 = .slice X' ls.length c' ∧ Gr w w' ∧ IssF (fun b => w.heap.size ≤ b) w' X' ls ∧ ls.length ≤ c' ∧ Firsts M (SeenD gm.rules ws (A : Int) xs i j s q (kk + 1)) ls) (fun K hK => ?_) ?_
    case refine_2 =>
      rintro g w' ⟨b15, b14, X', c', ls, b13, g', hS, hlc, hF⟩
      simp only [b15, go_sem, Nat.reduceEqDiff]
      rw [zj_ (by omega) (by omega)]
      exact hN2 _ _ hlk ⟨hlk, by show Value.int .i64 (((kk + 1 : Nat) : Int) + 1) = _; congr 1, b14, X', c', ls, b13, g', hS, hlc, hF⟩
    simp only [a0, a1, a2, a3, a4, a5, h14, h15, zq18, zq19, zq20, zq21, zq22, zq23, zq24, zq25, zq26, zq27, zq28, zq4, zq3, zq1, zq2, zq0, zq29, zq30, zq14, zq15, zq16, zq17, zq13, zq10, zq12, zq11, zq7, zq5, zq6, zq9, zq8, zq31, zq32, ite_T, ite_F, zq33, zq34, zq35, len27, len24, len35, fa26_0, fa26_1, fa26_2, fa33_0, fa33_1, fa124_0, fa124_1, fa274_0, fa274_1, fa274_2, Nat.reduceEqDiff]
    refine rdi (sll27 (by omega) (by rw [List.length_cons]; omega)) ?_
    rw [zj_ (n := (s : Int) - ((kk + 1 : Nat) : Int)) (by omega) (by omega), show (s : Int) - ((kk + 1 : Nat) : Int) = ((s - (kk + 1) : Nat) : Int) from by omega]
    refine ih (i := i + q) (hE.gr g2) (hsub.gr g2) (by show xs.length ≤ cr - 1; omega) (by omega) hx' hle hj (by omega) hM hM60 fun w3 Xr cr' rl g3 hr3 hrc hrF => ?_
    have hrl := hrF.len
    simp only [zq18, zq19, zq20, zq21, zq22, zq23, zq24, zq25, zq26, zq27, zq28, zq4, zq3, zq1, zq2, zq0, zq29, zq30, zq14, zq15, zq16, zq17, zq13, zq10, zq12, zq11, zq7, zq5, zq6, zq9, zq8, zq31, zq32, ite_T, ite_F, zq33, zq34, zq35, len27, len24, len35, fa26_0, fa26_1, fa26_2, fa33_0, fa33_1, fa124_0, fa124_1, fa274_0, fa274_1, fa274_2, Nat.reduceEqDiff]
    by_cases hr0 : rl.length = 0
    · simp only [show ((rl.length : Int) = 0) from by omega, decide_true, zq18, zq19, zq20, zq21, zq22, zq23, zq24, zq25, zq26, zq27, zq28, zq4, zq3, zq1, zq2, zq0, zq29, zq30, zq14, zq15, zq16, zq17, zq13, zq10, zq12, zq11, zq7, zq5, zq6, zq9, zq8, zq31, zq32, ite_T, ite_F, zq33, zq34, zq35, len27, len24, len35, fa26_0, fa26_1, fa26_2, fa33_0, fa33_1, fa124_0, fa124_1, fa274_0, fa274_1, fa274_2, Nat.reduceEqDiff]
      obtain rfl := List.eq_nil_of_length_eq_zero hr0
      refine hK _ _ ⟨h15, h14, X1, c1, ls, h13, zf_ g2 g3, hS.gr g3, hlc, hF.congr fun t => ?_⟩
      rw [zev_ hle hlk]
      exact ⟨fun h => h.resolve_right (partD_none (fun t => hrF.none hM t) t), .inl⟩
    simp only [show ¬ ((rl.length : Int) = 0) from by omega, decide_false, zq18, zq19, zq20, zq21, zq22, zq23, zq24, zq25, zq26, zq27, zq28, zq4, zq3, zq1, zq2, zq0, zq29, zq30, zq14, zq15, zq16, zq17, zq13, zq10, zq12, zq11, zq7, zq5, zq6, zq9, zq8, zq31, zq32, ite_T, ite_F, zq33, zq34, zq35, len27, len24, len35, fa26_0, fa26_1, fa26_2, fa33_0, fa33_1, fa124_0, fa124_1, fa274_0, fa274_1, fa274_2, Nat.reduceEqDiff]
    have g23 := zf_ g2 g3
    refine rdi (zvd_ hR.ptr (by simp)) (rdi (ld3 ((hR.gr g23).cell 0 (by simp))) ?_)
    simp only [List.getD_cons_zero]
    refine hTrees (hE.gr g23) (A := A) (i := i) (j := i + q) (s := kk + 1) (by omega) (by omega) (by omega) (by omega) hM hM60 fun w4 Xf cf fl ps g4 hf4 hfF => ?_
    have hfl := hfF.len
    have hfS := hf4.read
    have hr3 := hr3.is
    simp only [zq18, zq19, zq20, zq21, zq22, zq23, zq24, zq25, zq26, zq27, zq28, zq4, zq3, zq1, zq2, zq0, zq29, zq30, zq14, zq15, zq16, zq17, zq13, zq10, zq12, zq11, zq7, zq5, zq6, zq9, zq8, zq31, zq32, ite_T, ite_F, zq33, zq34, zq35, len27, len24, len35, fa26_0, fa26_1, fa26_2, fa33_0, fa33_1, fa124_0, fa124_1, fa274_0, fa274_1, fa274_2, Nat.reduceEqDiff]
    have g24 := zf_ g23 g4
    have hpart : ∀ {t : List Int}, t ∈ prodL fl rl → PartD gm.rules ws (A : Int) xs i j s (i + q) (kk + 1) t := fun {t} ht => by
      obtain ⟨a, b, ha, hb, rfl⟩ := mem_prodL.1 ht
      exact ⟨a, b, hfF.mem a ha, hrF.mem b hb, rfl⟩
    refine zhb_ fl.length 0 (fun ia f w' => ia ≤ fl.length ∧ f 90 = .int .i64 (ia : Int) ∧ f 15 = .int .i64 ((kk + 1 : Nat) : Int) ∧ f 14 = .int .i64 ((i + q : Nat) : Int) ∧ ∃ X' c', ∃ ls : List (List Int), f 13 = .slice X' ls.length c' ∧ Gr w4 w' ∧ IssF (fun b => w.heap.size ≤ b) w' X' ls ∧ ls.length ≤ c' ∧ Firsts M (fun z => SeenD gm.rules ws (A : Int) xs i j s q kk z ∨ z ∈ zwf_ fl rl ia 0) ls)
      ⟨Nat.zero_le _, rfl, h15, h14, X1, c1, ls, h13, Gr.refl _, hS.gr (zf_ g3 g4), hlc, hF.congr fun t => by rw [partL_zero]; simp⟩ ?_
    clear hF hS hlc h13 ls c1 X1
    rintro ia p w5 N3 hag3 ⟨hia, p90, p15, p14, X1, c1, ls, p13, g5, hS, hlc, hF⟩ hN3
    have p89 : p 89 = .int .i64 (fl.length : Int) := hag3 89 (by decide)
    have p88 : p 88 = .slice Xf fl.length cf := hag3 88 (by decide)
    have p16 : p 16 = .slice Xr rl.length cr' := hag3 16 (by decide)
    have p5 : p 5 = .int .i64 (M : Int) := (hag3 5 (by decide)).trans a5
    simp only [p89, p90, zq18, zq19, zq20, zq21, zq22, zq23, zq24, zq25, zq26, zq27, zq28, zq4, zq3, zq1, zq2, zq0, zq29, zq30, zq14, zq15, zq16, zq17, zq13, zq10, zq12, zq11, zq7, zq5, zq6, zq9, zq8, zq31, zq32, ite_T, ite_F, zq33, zq34, zq35, len27, len24, len35, fa26_0, fa26_1, fa26_2, fa33_0, fa33_1, fa124_0, fa124_1, fa274_0, fa274_1, fa274_2, Nat.reduceEqDiff]
    by_cases hla : ia < fl.length
    case neg =>
      simp only [show ¬ ((ia : Int) < fl.length) from by omega, decide_false, zq18, zq19, zq20, zq21, zq22, zq23, zq24, zq25, zq26, zq27, zq28, zq4, zq3, zq1, zq2, zq0, zq29, zq30, zq14, zq15, zq16, zq17, zq13, zq10, zq12, zq11, zq7, zq5, zq6, zq9, zq8, zq31, zq32, ite_T, ite_F, zq33, zq34, zq35, len27, len24, len35, fa26_0, fa26_1, fa26_2, fa33_0, fa33_1, fa124_0, fa124_1, fa274_0, fa274_1, fa274_2, Nat.reduceEqDiff]
      obtain rfl : ia = fl.length := by omega
      rw [partL_done (Nat.le_refl _)] at hF
      exact hK _ _ ⟨p15, p14, X1, c1, ls, p13, zf_ g24 g5, hS, hlc, (Firsts.part der_free hfF hrF hF).congr fun t => zev_ hle hlk⟩
    simp only [show ((ia : Int) < fl.length) from by omega, decide_true, zq18, zq19, zq20, zq21, zq22, zq23, zq24, zq25, zq26, zq27, zq28, zq4, zq3, zq1, zq2, zq0, zq29, zq30, zq14, zq15, zq16, zq17, zq13, zq10, zq12, zq11, zq7, zq5, zq6, zq9, zq8, zq31, zq32, ite_T, ite_F, zq33, zq34, zq35, len27, len24, len35, fa26_0, fa26_1, fa26_2, fa33_0, fa33_1, fa124_0, fa124_1, fa274_0, fa274_1, fa274_2, Nat.reduceEqDiff]
    simp only [p88, p16, zq18, zq19, zq20, zq21, zq22, zq23, zq24, zq25, zq26, zq27, zq28, zq4, zq3, zq1, zq2, zq0, zq29, zq30, zq14, zq15, zq16, zq17, zq13, zq10, zq12, zq11, zq7, zq5, zq6, zq9, zq8, zq31, zq32, ite_T, ite_F, zq33, zq34, zq35, len27, len24, len35, fa26_0, fa26_1, fa26_2, fa33_0, fa33_1, fa124_0, fa124_1, fa274_0, fa274_1, fa274_2, Nat.reduceEqDiff]
    obtain ⟨Za, ca, ta1, ta2, ta3⟩ := (hfS.gr g5).row ia hla
    have hal : (rgt fl ia).length = kk + 1 := ztm_ (hfF.mem _ (zrf_ hla))
    refine rdi (zce_ hfS.ptr hla) (rdi (ld27 ta1) ?_)
    refine zhb_ rl.length 0 (fun ib f w' => ib ≤ rl.length ∧ f 96 = .int .i64 (ib : Int) ∧ f 90 = .int .i64 (ia : Int) ∧ f 15 = .int .i64 ((kk + 1 : Nat) : Int) ∧ f 14 = .int .i64 ((i + q : Nat) : Int) ∧ ∃ X' c', ∃ ls : List (List Int), f 13 = .slice X' ls.length c' ∧ Gr w5 w' ∧ IssF (fun b => w.heap.size ≤ b) w' X' ls ∧ ls.length ≤ c' ∧ Firsts M (fun z => SeenD gm.rules ws (A : Int) xs i j s q kk z ∨ z ∈ zwf_ fl rl ia ib) ls)
      ⟨Nat.zero_le _, rfl, p90, p15, p14, X1, c1, ls, p13, Gr.refl _, hS, hlc, hF⟩ ?_
    clear hF hS hlc p13 ls c1 X1
    rintro ib p' w6 N4 hag4 ⟨hib, r96, r90, r15, r14, X1, c1, ls, r13, g6, hS, hlc, hF⟩ hN4
    have r95 : p' 95 = .int .i64 (rl.length : Int) := hag4 95 (by decide)
    have r94 : p' 94 = .slice Xr rl.length cr' := hag4 94 (by decide)
    have r18 : p' 18 = .slice Za (rgt fl ia).length ca := hag4 18 (by decide)
    have r5 : p' 5 = .int .i64 (M : Int) := (hag4 5 (by decide)).trans p5
    simp only [r95, r96, zq18, zq19, zq20, zq21, zq22, zq23, zq24, zq25, zq26, zq27, zq28, zq4, zq3, zq1, zq2, zq0, zq29, zq30, zq14, zq15, zq16, zq17, zq13, zq10, zq12, zq11, zq7, zq5, zq6, zq9, zq8, zq31, zq32, ite_T, ite_F, zq33, zq34, zq35, len27, len24, len35, fa26_0, fa26_1, fa26_2, fa33_0, fa33_1, fa124_0, fa124_1, fa274_0, fa274_1, fa274_2, Nat.reduceEqDiff]
    by_cases hlb : ib < rl.length
    case neg =>
      simp only [show ¬ ((ib : Int) < rl.length) from by omega, decide_false, zq18, zq19, zq20, zq21, zq22, zq23, zq24, zq25, zq26, zq27, zq28, zq4, zq3, zq1, zq2, zq0, zq29, zq30, zq14, zq15, zq16, zq17, zq13, zq10, zq12, zq11, zq7, zq5, zq6, zq9, zq8, zq31, zq32, ite_T, ite_F, zq33, zq34, zq35, len27, len24, len35, fa26_0, fa26_1, fa26_2, fa33_0, fa33_1, fa124_0, fa124_1, fa274_0, fa274_1, fa274_2, Nat.reduceEqDiff]
      simp only [r90, zq18, zq19, zq20, zq21, zq22, zq23, zq24, zq25, zq26, zq27, zq28, zq4, zq3, zq1, zq2, zq0, zq29, zq30, zq14, zq15, zq16, zq17, zq13, zq10, zq12, zq11, zq7, zq5, zq6, zq9, zq8, zq31, zq32, ite_T, ite_F, zq33, zq34, zq35, len27, len24, len35, fa26_0, fa26_1, fa26_2, fa33_0, fa33_1, fa124_0, fa124_1, fa274_0, fa274_1, fa274_2, Nat.reduceEqDiff]
      rw [zj_ (by omega) (by omega)]
      exact hN3 _ _ hla ⟨hla, rfl, r15, r14, X1, c1, ls, r13, zf_ g5 g6, hS, hlc, hF.congr fun t => by rw [partL_row hla (by omega)]⟩
    simp only [show ((ib : Int) < rl.length) from by omega, decide_true, zq18, zq19, zq20, zq21, zq22, zq23, zq24, zq25, zq26, zq27, zq28, zq4, zq3, zq1, zq2, zq0, zq29, zq30, zq14, zq15, zq16, zq17, zq13, zq10, zq12, zq11, zq7, zq5, zq6, zq9, zq8, zq31, zq32, ite_T, ite_F, zq33, zq34, zq35, len27, len24, len35, fa26_0, fa26_1, fa26_2, fa33_0, fa33_1, fa124_0, fa124_1, fa274_0, fa274_1, fa274_2, Nat.reduceEqDiff]
    simp only [r94, r18, r13, r5, zq18, zq19, zq20, zq21, zq22, zq23, zq24, zq25, zq26, zq27, zq28, zq4, zq3, zq1, zq2, zq0, zq29, zq30, zq14, zq15, zq16, zq17, zq13, zq10, zq12, zq11, zq7, zq5, zq6, zq9, zq8, zq31, zq32, ite_T, ite_F, zq33, zq34, zq35, len27, len24, len35, fa26_0, fa26_1, fa26_2, fa33_0, fa33_1, fa124_0, fa124_1, fa274_0, fa274_1, fa274_2, Nat.reduceEqDiff]
    obtain ⟨Zb, cb, tb1, tb2, tb3⟩ := (hr3.gr (zf_ g4 (zf_ g5 g6))).row ib hlb
    have hbl : (rgt rl ib).length = s - (kk + 1) := ztm_ (hrF.mem _ (zrf_ hlb))
    refine rdi (zce_ hr3.ptr hlb) (rdi (ld27 tb1) ?_)
    refine zbh_ (ta3.gr g6) rfl (by omega) fun X7 c7 w7 g7 o7 => ?_
    have H := (Apt.nil w6).addOwn g7 o7
    simp only [List.nil_append] at H
    refine apH H 0 rfl (tb3.gr g7) rfl rfl (by omega) fun X8 c8 w8 H => ?_
    simp only [List.set_cons_zero] at H
    have o8 := H.own 0 rfl
    have hlM := hF.len
    refine l11Insert_c (F := (fun b => w.heap.size ≤ b)) (fun q hq => ?_) (hS.gr H.gr) ((IntsF.of_own o8).mono fun b hb => ?_) rfl rfl hlc (Row.cap o8).1 (by omega) fun w9 X9 c9 mm hins g9 hS9 hlc9 => ?_
    · have := (zf_ g24 (zf_ g5 (zf_ g6 H.gr))).size
      omega
    · have := (zf_ g24 (zf_ g5 g6)).size
      have := hb.1
      omega
    have hx_new : ¬ (SeenD gm.rules ws (A : Int) xs i j s q kk (rgt fl ia ++ rgt rl ib) ∨ rgt fl ia ++ rgt rl ib ∈ zwf_ fl rl ia ib) := by
      rintro (h | h)
      · exact seen_apart h ⟨_, _, hfF.mem _ (zrf_ hla), hrF.mem _ (zrf_ hlb), rfl⟩
      · exact partL_new (A := Der gm.rules ws (.inl A) i (i + q) (kk + 1)) der_free hfF.rise hrF.rise hfF.mem hla hlb h
    have hF9 := hF.ins hx_new hins
    rw [zj_ (by omega) (by omega)]
    refine hN4 _ _ hlb ⟨hlb, rfl, r90, r15, r14, X9, c9, _, rfl, zf_ g6 (zf_ H.gr g9), hS9, hlc9, hF9.congr fun t => ?_⟩
    rw [partL_step hlb, List.mem_append, List.mem_singleton, or_assoc]
end
open Go Go.Sh Go.RowKit Go.Shelf
end Go.Proofs.Ytegcjkhebecgbaa

namespace Go.Sh
open Go
section
variable {w : World} {B e n c g : Nat} {X : Option Addr} {cells : List Value}
theorem Row.cut (h : Row w B e 1 X n c cells) {m : Nat} (hm : m ≤ n) : Row w B e 1 X m c (cells.take m) := by
  have hl := h.1
  rcases h.2 with ⟨h2, h3⟩ | ⟨g, cap, cur, e1, e2, e3, e4, e5, e6, e7⟩
  · subst h3
    obtain rfl : m = 0 := by omega
    simp only [Value.slice.injEq] at h2
    obtain ⟨rfl, _, rfl⟩ := h2
    exact Row.nil _ _ _ _
  · simp only [Value.slice.injEq] at e1
    obtain ⟨rfl, _, rfl⟩ := e1
    refine ⟨by rw [List.length_take]; omega, .inr ⟨g, c, cur, rfl, e2, e3, by omega, e5, e6, ?_⟩⟩
    rw [← e7, Nat.mul_one, Nat.mul_one, List.take_take, Nat.min_eq_left hm]
theorem Row.put {d xs : List Int} (h : Row w B e 1 (some ⟨g, 0, none⟩) n c (ints xs)) (hd : d.length = n) : Row (Sort.putRow (.int .i64) w g 0 d.toArray) B e 1 (some ⟨g, 0, none⟩) n c (ints d) ∧ w.grownBy (Sort.putRow (.int .i64) w g 0 d.toArray) (some g) := by
  rcases h.2 with h2 | ⟨g', cap, cur, e1, e2, e3, e4, e5, e6, e7⟩
  · simp at h2
  · simp only [Value.slice.injEq, Option.some.injEq, Addr.mk.injEq, and_true, true_and] at e1
    obtain ⟨rfl, rfl⟩ := e1
    have e6' : cur.size = c := by simpa using e6
    refine ⟨⟨by rw [zhe_]; omega, .inr ⟨g, c, Sort.putCells (.int .i64) 0 d.toArray cur, rfl, e2, ?_, e4, e5, ?_, ?_⟩⟩, ⟨rfl, rfl, rfl, ?_, fun k hk hn => ?_⟩⟩
    · simp only [Sort.putRow, Sort.mapBlock, Array.getElem?_modify, if_true, e3, Option.map_some, Sort.onCells]
    · simp [Sort.putCells, e6']
    · apply List.ext_getElem?
      intro j
      rw [Nat.mul_one, List.getElem?_take]
      by_cases hj : j < n
      · rw [if_pos hj, Array.getElem?_toList]
        simp only [Sort.putCells, Array.getElem?_mapIdx]
        have hc : j < cur.size := by omega
        rw [Array.getElem?_eq_getElem hc]
        simp [ints, hd, hj]
      · rw [if_neg hj, List.getElem?_eq_none (by rw [zhe_]; omega)]
    · simp [Sort.putRow, Sort.mapBlock]
    · simp only [Sort.putRow, Sort.mapBlock, Array.getElem?_modify]
      rw [if_neg (fun e => hn (by rw [e]))]
theorem Row.holds {xs : List Int} (h : Row w B e 1 (some ⟨g, 0, none⟩) n c (ints xs)) : Sort.Holds (.int .i64) w g 0 xs.toArray := by
  rcases h.2 with h2 | ⟨g', cap, cur, e1, e2, e3, e4, e5, e6, e7⟩
  · simp at h2
  · simp only [Value.slice.injEq, Option.some.injEq, Addr.mk.injEq, and_true, true_and] at e1
    obtain ⟨rfl, rfl⟩ := e1
    intro j hj
    have hj' : j < xs.length := by simpa using hj
    refine ⟨?_, ?_⟩
    · have := h.src.cell j (.int .i64 xs[j]) (by simp [ints, hj'])
      rw [show (ad (some (⟨g, 0, none⟩ : Addr))).add j = ⟨g, 0 + j, none⟩ from by show (⟨g, 0, none⟩ : Addr).add j = _; rw [zq34]] at this
      rw [this]
      simp [hj']
    · simp only [World.frozen?, e3]
      simp
theorem Row.facts (h : Row w B e 1 (some ⟨g, 0, none⟩) n c cells) : (∀ (j : Nat) (v : Value), cells[j]? = some v → w.cell? ⟨g, 0 + j, none⟩ = some v) ∧ (∀ j : Nat, w.frozen? ⟨g, j, none⟩ = false) ∧ w.shape? g = some (e, c) := by
  refine ⟨fun j v hv => ?_, ?_⟩
  · have := h.src.cell j v hv
    rwa [show (ad (some (⟨g, 0, none⟩ : Addr))).add j = ⟨g, 0 + j, none⟩ from by show (⟨g, 0, none⟩ : Addr).add j = _; rw [zq34]] at this
  · rcases h.2 with h2 | ⟨g', cap, cur, e1, e2, e3, e4, e5, e6, e7⟩
    · simp at h2
    · simp only [Value.slice.injEq, Option.some.injEq, Addr.mk.injEq, and_true, true_and] at e1
      obtain ⟨rfl, rfl⟩ := e1
      refine ⟨fun j => ?_, ?_⟩
      · simp only [World.frozen?, e3]
        simp
      · simp only [World.shape?, e3]
        rw [show cur.size = c from by simpa using e6]
end
end Go.Sh
namespace Go.Proofs.Ytegcjkhebecgbaa
open Go Go.Sh Go.RowKit Go.Shelf
section
variable {k : Value → World → Prop} {w0 w : World} {L : List Thing}
end
end Go.Proofs.Ytegcjkhebecgbaa

namespace Go.Sh
open Go
theorem zrt_ {rs : List RuleL} {A n a b : Nat} (hab : a < b) (hb : b < (zpb_ rs A n).length) : (zpb_ rs A n).getD a 0 < (zpb_ rs A n).getD b 0 := by
  have hp : (zpb_ rs A n).Pairwise (· < ·) := by
    unfold zpb_
    refine List.pairwise_map.2 ((List.pairwise_lt_range.filter _).imp fun h => ?_)
    omega
  rw [List.getD_eq_getElem?_getD, List.getD_eq_getElem?_getD, List.getElem?_eq_getElem (by omega), List.getElem?_eq_getElem hb]
  exact List.pairwise_iff_getElem.1 hp a b (by omega) hb hab
theorem rulesOf_has {rs : List RuleL} {A n q : Nat} (hq : q < n) (hA : (rul rs q).1 = (A : Int)) : ∃ l, l < (zpb_ rs A n).length ∧ (zpb_ rs A n).getD l 0 = (q : Int) := by
  have hm : (q : Int) ∈ zpb_ rs A n := by
    unfold zpb_
    refine List.mem_map.2 ⟨q, List.mem_filter.2 ⟨List.mem_range.2 hq, by simpa using hA⟩, rfl⟩
  obtain ⟨l, hl, e⟩ := List.getElem_of_mem hm
  refine ⟨l, hl, ?_⟩
  rw [List.getD_eq_getElem?_getD, List.getElem?_eq_getElem hl]
  exact e
def RuleS (rs : List RuleL) (ws : List Int) (A i j s l : Nat) (t : List Int) : Prop := ∃ l' q, l' < l ∧ l' < (zpb_ rs A rs.length).length ∧ (zpb_ rs A rs.length).getD l' 0 = ((q : Nat) : Int) ∧ ∃ r, Der rs ws (.inr (rul rs q).2) i j s r ∧ t = (q : Int) :: r
theorem zhm_ {rs : List RuleL} {ws : List Int} {A i j s : Nat} {t : List Int} : Der rs ws (.inl A) i j (s + 1) t ↔ RuleS rs ws A i j s (zpb_ rs A rs.length).length t := by
  rw [ruleD_all]
  constructor
  · rintro ⟨p, h1, h2, h3, r, h4, rfl⟩
    obtain ⟨l, hl, e⟩ := rulesOf_has h2 h3
    exact ⟨l, p, hl, hl, e, r, h4, rfl⟩
  · rintro ⟨l', q, h1, h2, h3, r, h4, rfl⟩
    obtain ⟨q', e, h5, h6, _⟩ := zmt_ h2
    rw [h3] at e
    have e := Int.natCast_inj.1 e
    subst e
    exact ⟨q, h5, h5, h6, r, h4, rfl⟩
theorem ruleS_none {rs : List RuleL} {ws : List Int} {A i j s : Nat} {t : List Int} : ¬ RuleS rs ws A i j s 0 t := by
  rintro ⟨l', q, h1, _⟩
  omega
theorem ruleS_step {rs : List RuleL} {ws : List Int} {A i j s l q : Nat} {t : List Int} (hl : l < (zpb_ rs A rs.length).length) (hq : (zpb_ rs A rs.length).getD l 0 = (q : Int)) : RuleS rs ws A i j s (l + 1) t ↔ RuleS rs ws A i j s l t ∨ ∃ r, Der rs ws (.inr (rul rs q).2) i j s r ∧ t = (q : Int) :: r := by
  constructor
  · rintro ⟨l', q', h1, h2, h3, r, h4, rfl⟩
    by_cases e : l' = l
    · subst e
      rw [hq] at h3
      have e := Int.natCast_inj.1 h3
      subst e
      exact .inr ⟨r, h4, rfl⟩
    · exact .inl ⟨l', q', by omega, h2, h3, r, h4, rfl⟩
  · rintro (⟨l', q', h1, h2, h3, r, h4, rfl⟩ | ⟨r, h4, rfl⟩)
    · exact ⟨l', q', by omega, h2, h3, r, h4, rfl⟩
    · exact ⟨l, q, by omega, hl, hq, r, h4, rfl⟩
theorem ruleS_lt {rs : List RuleL} {ws : List Int} {A i j s l q : Nat} {x y r : List Int} (hl : l < (zpb_ rs A rs.length).length) (hq : (zpb_ rs A rs.length).getD l 0 = (q : Int)) (hx : RuleS rs ws A i j s l x) (hy : y = (q : Int) :: r) : ltL x y := by
  obtain ⟨l', q', h1, h2, h3, r', _, rfl⟩ := hx
  subst hy
  have := zrt_ h1 hl
  rw [h3, hq] at this
  exact ltL_cons.2 (.inl this)
theorem ruleS_full {rs : List RuleL} {ws : List Int} {A i j s l M : Nat} {ls : List (List Int)} (h : Firsts M (RuleS rs ws A i j s l) ls) (hM : ls.length = M) : Firsts M (Der rs ws (.inl A) i j (s + 1)) ls := by
  refine h.more (fun x hx => ?_) fun x hx => ?_
  · rw [zhm_]
    obtain ⟨l', q', h1, h2, h3⟩ := hx
    exact ⟨l', q', h2, h2, h3⟩
  · rw [zhm_] at hx
    obtain ⟨l', q', h1, h2, h3, r, h4, rfl⟩ := hx
    by_cases hl : l' < l
    · exact .inl ⟨l', q', hl, h2, h3, r, h4, rfl⟩
    · refine .inr ⟨ls, h.rise, hM, fun y hy => ⟨h.mem y hy, ?_⟩⟩
      obtain ⟨l2, q2, g1, g2, g3, r2, _, rfl⟩ := h.mem y hy
      have := zrt_ (a := l2) (b := l') (by omega) h2
      rw [g3, h3] at this
      exact ltL_cons.2 (.inl this)
theorem sub_own {w : World} {B e n c sz : Nat} {X : Option Addr} {cells : List Value} (h : Row w B e sz X n c cells) : sub X 0 c 1 = X := by
  unfold Sh.sub
  split
  · rfl
  · rcases h.at_ with ⟨rfl, _⟩ | ⟨g, rfl, _⟩
    · rfl
    · simp [zq34]
theorem OwnSS.cut {e1 e2 : Nat} {w : World} {B c m : Nat} {X : Option Addr} {ls : List (List Int)} {ps : Nat → Option Addr × Nat} (h : OwnSS e1 e2 w B X c ls ps) (hm : m ≤ ls.length) : OwnSS e1 e2 w B X c (ls.take m) ps := by
  obtain ⟨⟨cells, hr, hc⟩, ho, ht⟩ := h
  have hl : (ls.take m).length = m := by rw [List.length_take]; omega
  refine ⟨⟨cells.take m, ?_, fun j hj => ?_⟩, fun j hj => ?_, fun a b ha hb hab => ?_⟩
  · rw [hl]
    exact hr.cut hm
  · rw [hl] at hj
    rw [List.getElem?_take, if_pos hj, zyg_ hj]
    exact hc j (by omega)
  · rw [hl] at hj
    rw [zyg_ hj]
    exact ho j (by omega)
  · rw [hl] at ha hb
    exact ht a b (by omega) (by omega) hab
theorem OwnSS.sub0 {e1 e2 : Nat} {w : World} {B c : Nat} {X : Option Addr} {ls : List (List Int)} {ps : Nat → Option Addr × Nat} (h : OwnSS e1 e2 w B X c ls ps) : sub X 0 c 1 = X := by
  obtain ⟨⟨cells, hr, hc⟩, ho, ht⟩ := h
  exact sub_own hr
theorem OwnSS.cap {e1 e2 : Nat} {w : World} {B c : Nat} {X : Option Addr} {ls : List (List Int)} {ps : Nat → Option Addr × Nat} (h : OwnSS e1 e2 w B X c ls ps) : ls.length ≤ c := by
  obtain ⟨⟨cells, hr, hc⟩, ho, ht⟩ := h
  exact (Row.cap hr).1
end Go.Sh
namespace Go.Proofs.Ytegcjkhebecgbaa
open Go Go.Sh Go.RowKit
section
variable {gm : Gram} {ws : List Int} {m nons bc cy cx cu : Nat} {Y X U : Option Addr}
set_option maxHeartbeats 6400000 in
theorem zfp_ (hg : zy_ gm = true) (hl : ws.length ≤ 10) (hw : ∀ t ∈ ws, 0 ≤ t ∧ t ≤ 100) (hnn : gm.nons = (nons : Nat)) (hm : m ≤ 12) {N : Nat} (hNm : N ≤ m)
    (hRow : ∀ (xs : List Int) {w : World} {R : Option Addr} {cr i j s M : Nat} {k : Value → World → Prop}, EnvT gm ws m nons bc Y cy X cx U cu w → Ints w R xs → xs.length ≤ cr → xs.length ≤ 4 → (∀ x ∈ xs, -100 ≤ x ∧ x < nons) → i ≤ j → j ≤ ws.length → s + 1 ≤ N → 0 < M → M ≤ 60 → (∀ w' X' c' ls, Gr w w' → IssF (fun b => w.heap.size ≤ b) w' X' ls → ls.length ≤ c' → Firsts M (Der gm.rules ws (.inr xs) i j s) ls → k (.slice X' ls.length c') w') →
      CallK Try.prog 348 [ptrv bc, .slice R xs.length cr, .int .i64 i, .int .i64 j, .int .i64 s, .int .i64 (M : Int)] k w)
    {w : World} {A i j s M : Nat} {k : Value → World → Prop} (hE : EnvT gm ws m nons bc Y cy X cx U cu w) (hsN : s ≤ N) (hA : A < nons) (hij : i ≤ j) (hj : j ≤ ws.length) (hM : 0 < M) (hM60 : M ≤ 60) (hk : ∀ w' X' c' ls ps, Gr w w' → OwnSS 27 3 w' w.heap.size X' c' ls ps → Firsts M (Der gm.rules ws (.inl A) i j s) ls → k (.slice X' ls.length c') w') :
      CallK Try.prog 334 [ptrv bc, .int .i64 A, .int .i64 i, .int .i64 j, .int .i64 s, .int .i64 (M : Int)] k w := by
  have hn6 := ztc_ hg
  have hr16 := zhg_ hg
  refine enter334 ?_
  unfold S334
  have E := hE.gr (zcb_ w)
  simp only [zq18, zq19, zq20, zq21, zq22, zq23, zq24, zq25, zq26, zq27, zq28, zq4, zq3, zq1, zq2, zq0, zq29, zq30, zq14, zq15, zq16, zq17, zq13, zq10, zq12, zq11, zq7, zq5, zq6, zq9, zq8, zq31, zq32, ite_T, ite_F, zq33, zq34, zq35, len27, len24, len35, fa26_0, fa26_1, fa26_2, fa33_0, fa33_1, fa124_0, fa124_1, fa274_0, fa274_1, fa274_2, Nat.reduceEqDiff]
  refine rdi (ldB271 E.box rfl) ?_
  obtain ⟨U1, c1, h1, h2, h3⟩ := E.tab.row A hA
  obtain ⟨U2, c2, h4, h5, h6⟩ := h3 i j (by omega) (by omega)
  have hab := zff_ (n := ws.length + 1) (show i < ws.length + 1 by omega) (show j < ws.length + 1 by omega)
  have hnn' : (ws.length + 1) * (ws.length + 1) ≤ 11 * 11 := Nat.mul_le_mul (by omega) (by omega)
  refine rdi (zxi_ (fun h => E.tab.ptr h) hA) (rdi (ld35 h1) (rdi (zrd_ E.box rfl) ?_))
  simp only [zq18, zq19, zq20, zq21, zq22, zq23, zq24, zq25, zq26, zq27, zq28, zq4, zq3, zq1, zq2, zq0, zq29, zq30, zq14, zq15, zq16, zq17, zq13, zq10, zq12, zq11, zq7, zq5, zq6, zq9, zq8, zq31, zq32, ite_T, ite_F, zq33, zq34, zq35, len27, len24, len35, fa26_0, fa26_1, fa26_2, fa33_0, fa33_1, fa124_0, fa124_1, fa274_0, fa274_1, fa274_2, Nat.reduceEqDiff]
  rw [zj_ (n := (ws.length : Int) + 1) (by omega) (by omega), show (i : Int) * ((ws.length : Int) + 1) = ((i * (ws.length + 1) : Nat) : Int) from by push_cast; rfl, zj_ (n := ((i * (ws.length + 1) : Nat) : Int)) (by omega) (by omega), zj_ (n := ((i * (ws.length + 1) : Nat) : Int) + (j : Int)) (by omega) (by omega)]
  rw [show (((i * (ws.length + 1) : Nat) : Int) + (j : Int)) = ((i * (ws.length + 1) + j : Nat) : Int) from by push_cast; rfl]
  refine rdi (zce_ (fun _ => h2) hab) (rdi (ld27 h4) ?_)
  refine rdi (zub_ (fun _ => h5) (by omega)) (rdi (ld3 (h6 s (by omega))) ?_)
  simp only [zq18, zq19, zq20, zq21, zq22, zq23, zq24, zq25, zq26, zq27, zq28, zq4, zq3, zq1, zq2, zq0, zq29, zq30, zq14, zq15, zq16, zq17, zq13, zq10, zq12, zq11, zq7, zq5, zq6, zq9, zq8, zq31, zq32, ite_T, ite_F, zq33, zq34, zq35, len27, len24, len35, fa26_0, fa26_1, fa26_2, fa33_0, fa33_1, fa124_0, fa124_1, fa274_0, fa274_1, fa274_2, Nat.reduceEqDiff]
  by_cases h0 : min capM (cntC gm.rules ws A i j s) = 0
  · simp only [show ((min capM (cntC gm.rules ws A i j s) : Nat) : Int) = 0 from by omega, decide_true, zq18, zq19, zq20, zq21, zq22, zq23, zq24, zq25, zq26, zq27, zq28, zq4, zq3, zq1, zq2, zq0, zq29, zq30, zq14, zq15, zq16, zq17, zq13, zq10, zq12, zq11, zq7, zq5, zq6, zq9, zq8, zq31, zq32, ite_T, ite_F, zq33, zq34, zq35, len27, len24, len35, fa26_0, fa26_1, fa26_2, fa33_0, fa33_1, fa124_0, fa124_1, fa274_0, fa274_1, fa274_2, Nat.reduceEqDiff]
    refine hk _ none 0 [] (fun _ => (none, 0)) (zcb_ w) (OwnSS.nil _ _ _ _ _) (Firsts.nil _ fun t ht => ?_)
    have := der_posC ht
    unfold capM at h0
    omega
  simp only [show ¬ (((min capM (cntC gm.rules ws A i j s) : Nat) : Int) = 0) from by omega, decide_false, zq18, zq19, zq20, zq21, zq22, zq23, zq24, zq25, zq26, zq27, zq28, zq4, zq3, zq1, zq2, zq0, zq29, zq30, zq14, zq15, zq16, zq17, zq13, zq10, zq12, zq11, zq7, zq5, zq6, zq9, zq8, zq31, zq32, ite_T, ite_F, zq33, zq34, zq35, len27, len24, len35, fa26_0, fa26_1, fa26_2, fa33_0, fa33_1, fa124_0, fa124_1, fa274_0, fa274_1, fa274_2, Nat.reduceEqDiff]
  obtain ⟨s, rfl⟩ : ∃ s', s = s' + 1 := ⟨s - 1, by
    have : s ≠ 0 := by
      rintro rfl
      rw [zbm_] at h0
      exact h0 (Nat.min_zero _)
    omega⟩
  clear h0
  rw [zfi_ zdb_ sz26 (cs := [.int .i64 gm.nons, .int .i64 gm.toks, .slice Y gm.rules.length cy]) rfl (fun j hj => by
    have := E.box.cell j
    rw [zq34]
    rw [Nat.zero_add]
    rw [this]
    simp at hj
    match j, hj with
    | 0, _ => rfl
    | 1, _ => rfl
    | 2, _ => rfl)]
  refine l1Rules_c (gm := gm) (F := fun _ => True) ⟨Y, cy, rfl, E.hc, E.hy⟩ hg fun w2 UL dL g2 oL => ?_
  have hLl := zep_ gm.rules A gm.rules.length
  simp only [zq18, zq19, zq20, zq21, zq22, zq23, zq24, zq25, zq26, zq27, zq28, zq4, zq3, zq1, zq2, zq0, zq29, zq30, zq14, zq15, zq16, zq17, zq13, zq10, zq12, zq11, zq7, zq5, zq6, zq9, zq8, zq31, zq32, ite_T, ite_F, zq33, zq34, zq35, len27, len24, len35, fa26_0, fa26_1, fa26_2, fa33_0, fa33_1, fa124_0, fa124_1, fa274_0, fa274_1, fa274_2, Nat.reduceEqDiff]
  have H := (((Apt.nil w).step (zcb_ w)).addOwn g2 oL).addLss (Gr.refl w2) (OwnSS.nil w2 w2.heap.size 27 3 fun _ => (none, 0))
  simp only [List.nil_append, List.cons_append] at H
  refine zhb_ (zpb_ gm.rules A gm.rules.length).length 0 (fun l f w' => l ≤ (zpb_ gm.rules A gm.rules.length).length ∧ f 48 = .int .i64 l ∧ ∃ X' c' ps, ∃ ls : List (List Int), f 13 = .slice X' ls.length c' ∧ Apt w w' [ows UL dL (zpb_ gm.rules A gm.rules.length), lss X' c' ls ps] ∧ Firsts M (RuleS gm.rules ws A i j s l) ls ∧ ls.length < M)
    ⟨Nat.zero_le _, rfl, none, 0, _, [], rfl, H, Firsts.nil _ fun t => ruleS_none, hM⟩ ?_
  clear H
  rintro l f w3 NN hag ⟨hll, h48, X1, c1, ps, ls, h13, H, hF, hlM⟩ hN
  have f0 : f 0 = ptrv bc := hag 0 (by decide)
  have f2 : f 2 = .int .i64 i := hag 2 (by decide)
  have f3 : f 3 = .int .i64 j := hag 3 (by decide)
  have f4 : f 4 = .int .i64 ((s + 1 : Nat) : Int) := hag 4 (by decide)
  have f5 : f 5 = .int .i64 (M : Int) := hag 5 (by decide)
  have f46 : f 46 = .slice UL (zpb_ gm.rules A gm.rules.length).length dL := hag 46 (by decide)
  have f47 : f 47 = .int .i64 (zpb_ gm.rules A gm.rules.length).length := hag 47 (by decide)
  simp only [f0, f2, f3, f4, f5, f46, f47, h48, h13, zq18, zq19, zq20, zq21, zq22, zq23, zq24, zq25, zq26, zq27, zq28, zq4, zq3, zq1, zq2, zq0, zq29, zq30, zq14, zq15, zq16, zq17, zq13, zq10, zq12, zq11, zq7, zq5, zq6, zq9, zq8, zq31, zq32, ite_T, ite_F, zq33, zq34, zq35, len27, len24, len35, fa26_0, fa26_1, fa26_2, fa33_0, fa33_1, fa124_0, fa124_1, fa274_0, fa274_1, fa274_2, Nat.reduceEqDiff]
  by_cases hlt : l < (zpb_ gm.rules A gm.rules.length).length
  case neg =>
    simp only [show ¬ ((l : Int) < (zpb_ gm.rules A gm.rules.length).length) from by omega, decide_false, zq18, zq19, zq20, zq21, zq22, zq23, zq24, zq25, zq26, zq27, zq28, zq4, zq3, zq1, zq2, zq0, zq29, zq30, zq14, zq15, zq16, zq17, zq13, zq10, zq12, zq11, zq7, zq5, zq6, zq9, zq8, zq31, zq32, ite_T, ite_F, zq33, zq34, zq35, len27, len24, len35, fa26_0, fa26_1, fa26_2, fa33_0, fa33_1, fa124_0, fa124_1, fa274_0, fa274_1, fa274_2, Nat.reduceEqDiff]
    obtain rfl : l = (zpb_ gm.rules A gm.rules.length).length := by omega
    exact hk _ X1 c1 ls ps H.gr (H.lssi 1 rfl) (hF.congr fun t => zhm_)
  simp only [show ((l : Int) < (zpb_ gm.rules A gm.rules.length).length) from by omega, decide_true, zq18, zq19, zq20, zq21, zq22, zq23, zq24, zq25, zq26, zq27, zq28, zq4, zq3, zq1, zq2, zq0, zq29, zq30, zq14, zq15, zq16, zq17, zq13, zq10, zq12, zq11, zq7, zq5, zq6, zq9, zq8, zq31, zq32, ite_T, ite_F, zq33, zq34, zq35, len27, len24, len35, fa26_0, fa26_1, fa26_2, fa33_0, fa33_1, fa124_0, fa124_1, fa274_0, fa274_1, fa274_2, Nat.reduceEqDiff]
  obtain ⟨q, hqv, hlq, hqA, hqf⟩ := zmt_ hlt
  have hLi := H.ints 0 rfl
  have hcl := hLi.cell l hlt
  rw [hqv] at hcl
  refine rdi (zub_ hLi.ptr hlt) (rdi (ld3 hcl) ?_)
  have E3 := hE.gr H.gr
  rw [zuf_ E3.box rfl]
  obtain ⟨Z, cz, t1, t2, t3, t4⟩ := E3.hy.row q hlq
  have hright := zmi_ hg hlq
  have hR4 := zwd_ hg q hlq
  refine rdi (zwe_ E3.hy.ptr hlq) ?_
  rw [fa33_1, zhc_]
  refine rdi (ld27 t2) ?_
  have hrr : ∀ x ∈ (rul gm.rules q).2, -100 ≤ x ∧ x < nons := fun x hx => by have := hright x hx; omega
  rw [zj_ (by omega) (by omega), zj_ (by omega) (by omega), show (((s + 1 : Nat) : Int) - 1) = (s : Int) from by omega, show (M : Int) - (ls.length : Int) = ((M - ls.length : Nat) : Int) from by omega]
  refine hRow _ E3 t4.is t3 hR4 hrr hij hj hsN (by omega) (by omega) fun w4 Xr cr rl g4 hr4 hrc hrF => ?_
  have hrl := hrF.len
  simp only [zq18, zq19, zq20, zq21, zq22, zq23, zq24, zq25, zq26, zq27, zq28, zq4, zq3, zq1, zq2, zq0, zq29, zq30, zq14, zq15, zq16, zq17, zq13, zq10, zq12, zq11, zq7, zq5, zq6, zq9, zq8, zq31, zq32, ite_T, ite_F, zq33, zq34, zq35, len27, len24, len35, fa26_0, fa26_1, fa26_2, fa33_0, fa33_1, fa124_0, fa124_1, fa274_0, fa274_1, fa274_2, Nat.reduceEqDiff]
  have H := H.addRdy g4 hr4
  simp only [List.nil_append, List.cons_append] at H
  refine zhb_ rl.length 0 (fun a f w' => a ≤ rl.length ∧ f 72 = .int .i64 a ∧ f 48 = .int .i64 l ∧ ∃ X' c' ps, f 13 = .slice X' (ls ++ (rl.take a).map ((q : Int) :: ·)).length c' ∧ Apt w w' [ows UL dL (zpb_ gm.rules A gm.rules.length), lss X' c' (ls ++ (rl.take a).map ((q : Int) :: ·)) ps, rdy w3.heap.size w4.heap.size Xr rl])
    ⟨Nat.zero_le _, rfl, h48, X1, c1, ps, by simp only [List.take_zero, List.map_nil, List.append_nil]; exact h13, by simp only [List.take_zero, List.map_nil, List.append_nil]; exact H⟩ ?_
  clear H
  rintro a g w5 N2 hag2 ⟨ha, a72, a48, X2, c2, ps2, a13, H⟩ hN2
  have a5 : g 5 = .int .i64 (M : Int) := (hag2 5 (by decide)).trans f5
  have a71 : g 71 = .int .i64 rl.length := hag2 71 (by decide)
  have a70 : g 70 = .slice Xr rl.length cr := hag2 70 (by decide)
  have a15 : g 15 = .int .i64 (q : Int) := hag2 15 (by decide)
  simp only [a71, a72, zq18, zq19, zq20, zq21, zq22, zq23, zq24, zq25, zq26, zq27, zq28, zq4, zq3, zq1, zq2, zq0, zq29, zq30, zq14, zq15, zq16, zq17, zq13, zq10, zq12, zq11, zq7, zq5, zq6, zq9, zq8, zq31, zq32, ite_T, ite_F, zq33, zq34, zq35, len27, len24, len35, fa26_0, fa26_1, fa26_2, fa33_0, fa33_1, fa124_0, fa124_1, fa274_0, fa274_1, fa274_2, Nat.reduceEqDiff]
  by_cases hal : a < rl.length
  case neg =>
    simp only [show ¬ ((a : Int) < rl.length) from by omega, decide_false, zq18, zq19, zq20, zq21, zq22, zq23, zq24, zq25, zq26, zq27, zq28, zq4, zq3, zq1, zq2, zq0, zq29, zq30, zq14, zq15, zq16, zq17, zq13, zq10, zq12, zq11, zq7, zq5, zq6, zq9, zq8, zq31, zq32, ite_T, ite_F, zq33, zq34, zq35, len27, len24, len35, fa26_0, fa26_1, fa26_2, fa33_0, fa33_1, fa124_0, fa124_1, fa274_0, fa274_1, fa274_2, Nat.reduceEqDiff]
    obtain rfl : a = rl.length := by omega
    rw [List.take_of_length_le (Nat.le_refl _)] at a13 H
    simp only [a13, a5, a48, zq18, zq19, zq20, zq21, zq22, zq23, zq24, zq25, zq26, zq27, zq28, zq4, zq3, zq1, zq2, zq0, zq29, zq30, zq14, zq15, zq16, zq17, zq13, zq10, zq12, zq11, zq7, zq5, zq6, zq9, zq8, zq31, zq32, ite_T, ite_F, zq33, zq34, zq35, len27, len24, len35, fa26_0, fa26_1, fa26_2, fa33_0, fa33_1, fa124_0, fa124_1, fa274_0, fa274_1, fa274_2, Nat.reduceEqDiff]
    have hF2 : Firsts M (RuleS gm.rules ws A i j s (l + 1)) (ls ++ rl.map ((q : Int) :: ·)) := by
      refine (hF.append (hrF.map q) fun x y hx hy => ?_).congr fun t => ?_
      · obtain ⟨r, _, rfl⟩ := hy
        exact ruleS_lt hlt hqv hx rfl
      · exact ruleS_step hlt hqv
    have hl2 := hF2.len
    generalize hLS : ls ++ rl.map ((q : Int) :: ·) = LS at *
    by_cases hfull : LS.length = M
    · simp only [show (M : Int) ≤ (LS.length : Int) from by omega, decide_true, zq18, zq19, zq20, zq21, zq22, zq23, zq24, zq25, zq26, zq27, zq28, zq4, zq3, zq1, zq2, zq0, zq29, zq30, zq14, zq15, zq16, zq17, zq13, zq10, zq12, zq11, zq7, zq5, zq6, zq9, zq8, zq31, zq32, ite_T, ite_F, zq33, zq34, zq35, len27, len24, len35, fa26_0, fa26_1, fa26_2, fa33_0, fa33_1, fa124_0, fa124_1, fa274_0, fa274_1, fa274_2, Nat.reduceEqDiff]
      have o := H.lssi 1 rfl
      refine rdi (slh35 (by omega) (by have := o.cap; omega)) ?_
      rw [o.sub0, show ((M : Nat) : Int).toNat = LS.length from by omega]
      exact hk _ X2 c2 LS ps2 H.gr o (ruleS_full hF2 hfull)
    · simp only [show ¬ ((M : Int) ≤ (LS.length : Int)) from by omega, decide_false, zq18, zq19, zq20, zq21, zq22, zq23, zq24, zq25, zq26, zq27, zq28, zq4, zq3, zq1, zq2, zq0, zq29, zq30, zq14, zq15, zq16, zq17, zq13, zq10, zq12, zq11, zq7, zq5, zq6, zq9, zq8, zq31, zq32, ite_T, ite_F, zq33, zq34, zq35, len27, len24, len35, fa26_0, fa26_1, fa26_2, fa33_0, fa33_1, fa124_0, fa124_1, fa274_0, fa274_1, fa274_2, Nat.reduceEqDiff]
      rw [zj_ (by omega) (by omega)]
      exact hN _ _ hlt ⟨hlt, rfl, X2, c2, ps2, LS, a13, H.take 2, hF2, by omega⟩
  simp only [show ((a : Int) < rl.length) from by omega, decide_true, zq18, zq19, zq20, zq21, zq22, zq23, zq24, zq25, zq26, zq27, zq28, zq4, zq3, zq1, zq2, zq0, zq29, zq30, zq14, zq15, zq16, zq17, zq13, zq10, zq12, zq11, zq7, zq5, zq6, zq9, zq8, zq31, zq32, ite_T, ite_F, zq33, zq34, zq35, len27, len24, len35, fa26_0, fa26_1, fa26_2, fa33_0, fa33_1, fa124_0, fa124_1, fa274_0, fa274_1, fa274_2, Nat.reduceEqDiff]
  simp only [a70, a15, a13, zq18, zq19, zq20, zq21, zq22, zq23, zq24, zq25, zq26, zq27, zq28, zq4, zq3, zq1, zq2, zq0, zq29, zq30, zq14, zq15, zq16, zq17, zq13, zq10, zq12, zq11, zq7, zq5, zq6, zq9, zq8, zq31, zq32, ite_T, ite_F, zq33, zq34, zq35, len27, len24, len35, fa26_0, fa26_1, fa26_2, fa33_0, fa33_1, fa124_0, fa124_1, fa274_0, fa274_1, fa274_2, Nat.reduceEqDiff]
  obtain ⟨Zb, cb, tb1, tb2, tb3⟩ := (H.rdy 2 rfl).row a hal
  have hbl : (rgt rl a).length = s := ztm_ (hrF.mem _ (zrf_ hal))
  refine rdi (zce_ hr4.ptr hal) (rdi (ld27 tb1) ?_)
  have hll2 : (ls ++ (rl.take a).map ((q : Int) :: ·)).length ≤ 200 := by
    rw [List.length_append, List.length_map, List.length_take]
    omega
  refine zbb_ u27 inf3 (cells := [.int .i64 (q : Int)]) (by decide) (by decide) (by simp [Instr.fill, madeCells, Value.cells, rng1]) rfl fun b1 w6 hb1 hb2 g6 hB6 hr6 => ?_
  have H6 := H.addOwn (xs := [(q : Int)]) g6 (hr6 _ (Nat.le_refl _))
  simp only [List.nil_append, List.cons_append] at H6
  refine apH H6 3 rfl (tb3.is.gr g6) rfl rfl (by simp; omega) fun X7 c7 w7 H7 => ?_
  simp only [List.set_cons_zero, List.set_cons_succ] at H7
  refine zvj_ H7 1 3 (by decide) rfl rfl rfl rfl (by omega) fun t8 X8 c8 w8 ps8 H8 => ?_
  simp only [List.set_cons_zero, List.set_cons_succ] at H8
  have H8 := H8.take 3
  simp only [List.take_succ_cons, List.take_zero] at H8
  rw [zj_ (by omega) (by omega)]
  have e : ls ++ (rl.take (a + 1)).map ((q : Int) :: ·) = ls ++ (rl.take a).map ((q : Int) :: ·) ++ [[(q : Int)] ++ rgt rl a] := by
    rw [zad_ hal, List.map_append, List.append_assoc]
    rfl
  refine hN2 _ _ hal ⟨hal, rfl, a48, X8, c8, ps8, ?_, ?_⟩
  · rw [e]
    rfl
  · rw [e]
    exact H8
end
end Go.Proofs.Ytegcjkhebecgbaa

namespace Go.Sh
open Go Go.WideMaps
section
variable {P : Program} {k : Value → World → Prop} {w0 w : World} {L : List Thing} {Good : Value → Value → Prop}
end
end Go.Sh
namespace Go.Proofs.Ytegcjkhebecgbaa
open Go Go.Sh Go.RowKit Go.WideMaps
open Go Go.Sh Go.RowKit
end Go.Proofs.Ytegcjkhebecgbaa

namespace Go.Sh
open Go
def keyV (a b c d : Nat) : Value := .agg #[.int .i64 (a : Int), .int .i64 (b : Int), .int .i64 (c : Int), .int .i64 (d : Int), .int .i64 0]
theorem keyV_inj {a b c d a' b' c' d' : Nat} (h : keyV a b c d = keyV a' b' c' d') : a = a' ∧ b = b' ∧ c = c' ∧ d = d' := by
  simp only [keyV, Value.agg.injEq, Array.mk.injEq, List.cons.injEq, Value.int.injEq, true_and, and_true, Int.natCast_inj] at h
  exact h
def GoodC (M : Nat) (rs : List RuleL) (ws : List Int) (key v : Value) : Prop :=
  ∃ q p i j s : Nat, q ≤ 16 ∧ p ≤ 4 ∧ i ≤ 10 ∧ j ≤ 10 ∧ s ≤ 20 ∧ key = keyV (q * 5 + p) i j s ∧ v = .int .i64 ((min M (cntR (cntC rs ws) ws ((rul rs q).2.drop p) i j s) : Nat) : Int)
theorem GoodC.get {M : Nat} {rs : List RuleL} {ws : List Int} {q p i j s : Nat} {v : Value} (hp : p ≤ 4) (h : GoodC M rs ws (keyV (q * 5 + p) i j s) v) : v = .int .i64 ((min M (cntR (cntC rs ws) ws ((rul rs q).2.drop p) i j s) : Nat) : Int) := by
  obtain ⟨q', p', i', j', s', h1, h2, h3, h4, h5, h6, rfl⟩ := h
  obtain ⟨e1, rfl, rfl, rfl⟩ := keyV_inj h6
  obtain ⟨rfl, rfl⟩ : q = q' ∧ p = p' := by omega
  rfl
end Go.Sh
namespace Go.Proofs.Ytegcjkhebecgbaa
open Go Go.Sh Go.RowKit Go.WideMaps
end Go.Proofs.Ytegcjkhebecgbaa

namespace Go.Sh
open Go
section
variable {P : Program} {k : Value → World → Prop} {w0 w : World} {L : List Thing} {Good : Value → Value → Prop}
theorem boxHG (H : Apt w0 w L) {t : TypeId} {v : Value} (h : ∀ b w', Gr w w' → Apt w0 w' (L ++ [bx b v.cells.toList t]) → k (.pointer (some ⟨b, 0, none⟩)) w') : Do P (sBox t v) k w :=
  zpd_ fun b w' g hb hB => h b w' g (H.addBox g hb hB)
end
end Go.Sh
namespace Go.Proofs.Ytegcjkhebecgbaa
open Go Go.Sh Go.RowKit
end Go.Proofs.Ytegcjkhebecgbaa

namespace Go.Sh
open Go
end Go.Sh
namespace Go.Proofs.Ytegcjkhebecgbaa
open Go Go.Sh Go.RowKit

end Go.Proofs.Ytegcjkhebecgbaa

namespace Go.Sh
open Go
def resG : Option Gram → Gram
  | some m => m
  | none => ⟨0, 0, []⟩
theorem GramR.own {w : World} {B : Nat} {v : Value} {o : Option Gram} (h : GramR w B v o) : GramO w B v (resG o) := by
  cases o with
  | some m => exact h
  | none => exact ⟨none, 0, fun _ => (none, 0), h, ⟨[], Row.nil _ _ _ _, fun j hj => by simp [resG] at hj⟩, fun j hj => by simp [resG] at hj, fun i j hi => by simp [resG] at hi⟩
end Go.Sh
namespace Go.Proofs.Ytegcjkhebecgbaa
open Go Go.Sh Go.RowKit

end Go.Proofs.Ytegcjkhebecgbaa

namespace Go.Sh
open Go
section
variable {P : Program} {S : WS} {k : Value → Prop}
end
end Go.Sh
namespace Go.Proofs.Ytegcjkhebecgbaa
open Go Go.Sh Go.RowKit
section
variable {k : Value → World → Prop} {w0 w : World} {L : List Thing}
end
end Go.Proofs.Ytegcjkhebecgbaa

namespace Go.Sh
open Go
noncomputable def firstsOf (M : Nat) (S : List Int → Prop) : List (List Int) := open Classical in if h : ∃ l, Firsts M S l then Classical.choose h else []
theorem firstsOf_eq {M : Nat} {S : List Int → Prop} {l : List (List Int)} (h : Firsts M S l) : firstsOf M S = l := by
  unfold firstsOf
  have hx : ∃ l, Firsts M S l := ⟨l, h⟩
  rw [dif_pos hx]
  exact (Classical.choose_spec hx).uniq h
noncomputable def toldL (S : Nat → List Int → Prop) (many : Nat) : Nat → List (List Int)
  | 0 => []
  | n + 1 => if (toldL S many n).length < many then toldL S many n ++ firstsOf (many - (toldL S many n).length) (S (n + 1)) else toldL S many n
theorem toldL_full {S : Nat → List Int → Prop} {many n : Nat} (h : ¬ (toldL S many n).length < many) : ∀ {m : Nat}, n ≤ m → toldL S many m = toldL S many n := by
  intro m
  induction m with
  | zero => intro hm; rw [show n = 0 from by omega]
  | succ m ih =>
    intro hm
    by_cases e : n = m + 1
    · rw [e]
    · have := ih (by omega)
      rw [toldL, this, if_neg h]
theorem zhv_ {S : Nat → List Int → Prop} {many : Nat} : ∀ n, (toldL S many n).length ≤ many := by
  intro n
  induction n with
  | zero => exact Nat.zero_le _
  | succ n ih =>
    rw [toldL]
    split
    · rw [List.length_append]
      have : (firstsOf (many - (toldL S many n).length) (S (n + 1))).length ≤ many - (toldL S many n).length := by
        unfold firstsOf
        split
        · rename_i hh
          exact (Classical.choose_spec hh).len
        · simp
      omega
    · exact ih
def topD (gm : Gram) (ws : List Int) (s : Nat) : List Int → Prop := Der gm.rules ws (.inl 0) 0 ws.length s
noncomputable def treesV (gm : Gram) (ws : List Int) (most many : Int) : List (List Int) × Bool := if (((zy_ gm && zpc_ gm.toks ws) && inB most 0 12) && inB many 0 60) = true then (toldL (topD gm ws) many.toNat most.toNat, true) else ([], false)
end Go.Sh
namespace Go.Proofs.Ytegcjkhebecgbaa
open Go Go.Sh Go.RowKit
theorem l11Make_c {gm : Gram} {ws : List Int} {m nons bc cy cx cu : Nat} {Y X U : Option Addr} (hg : zy_ gm = true) (hl : ws.length ≤ 10) (hw : ∀ t ∈ ws, 0 ≤ t ∧ t ≤ 100) (hnn : gm.nons = (nons : Nat)) (hm : m ≤ 12) : ∀ (N : Nat), N ≤ m →
    ∀ {w : World} {A i j s M : Nat} {k : Value → World → Prop}, EnvT gm ws m nons bc Y cy X cx U cu w → s ≤ N → A < nons → i ≤ j → j ≤ ws.length → 0 < M → M ≤ 60 → (∀ w' X' c' ls ps, Gr w w' → OwnSS 27 3 w' w.heap.size X' c' ls ps → Firsts M (Der gm.rules ws (.inl A) i j s) ls → k (.slice X' ls.length c') w') →
      CallK Try.prog 334 [ptrv bc, .int .i64 A, .int .i64 i, .int .i64 j, .int .i64 s, .int .i64 (M : Int)] k w := by
  intro N
  induction N with
  | zero =>
    intro hN w A i j s M k hE hs hA hij hj hM hM60 hk
    exact zfp_ hg hl hw hnn hm hN (fun xs {w R cr i j s M k} _ _ _ _ _ _ _ h => absurd h (by omega)) hE hs hA hij hj hM hM60 hk
  | succ N ih =>
    intro hN w A i j s M k hE hs hA hij hj hM hM60 hk
    have hRow := l11Row_of (Y := Y) (X := X) (U := U) (bc := bc) (cy := cy) (cx := cx) (cu := cu) hg hl hw hnn hm (N := N) (by omega) (ih (by omega))
    exact zfp_ hg hl hw hnn hm hN (fun xs {w R cr i j s M k} h1 h2 h3 h4 h5 h6 h7 h8 => hRow xs h1 h2 h3 h4 h5 h6 h7 (by omega)) hE hs hA hij hj hM hM60 hk
theorem inf274' : Inf Try.prog 274 (.agg #[.int .i64 0, .int .i64 0, .slice none 0 0, .slice none 0 0, .slice none 0 0]) 5 88 := zkf_ (by kernel_rfl)
theorem bd274 {S : WS} {k : Value → Prop} {a b c p m : Value} (ha : a.cells = #[a]) (hb : b.cells = #[b]) (hc : c.cells = #[c]) (hp : p.cells = #[p]) (hm : m.cells = #[m]) : Rd Try.prog S (zeb_ 274 [(0, .agg #[a, b, c]), (1, p), (2, m)]) k = k (.agg #[a, b, c, p, m]) :=
  zvk_ (ps := [(0, 3), (3, 1), (4, 1)]) Try.underlying274 inf274' ⟨⟨rfl, sz26⟩, ⟨rfl, sz27⟩, ⟨rfl, sz271⟩, trivial⟩ (by
    have e : (Value.agg #[a, b, c]).cells = #[a, b, c] := rfl
    have e2 : (Value.agg #[Value.int .i64 0, .int .i64 0, .slice none 0 0, .slice none 0 0, .slice none 0 0]).cells = #[Value.int .i64 0, .int .i64 0, .slice none 0 0, .slice none 0 0, .slice none 0 0] := rfl
    simp [Instr.fill, hp, hm, e, e2])
set_option maxHeartbeats 1600000 in
theorem l11Trees_c {F : Nat → Prop} {w : World} {v : Value} {gm : Gram} {X : Option Addr} {cx n0 most many : Nat} {ws : List Int} (hv : GramV F w v gm) (hg : zy_ gm = true) (hX : Ints w X ws) (hn : n0 = ws.length) (hl : ws.length ≤ 10) (hw : ∀ x ∈ ws, 0 ≤ x ∧ x ≤ 100) (hm : most ≤ 12) (hM : many ≤ 60) {k : Value → World → Prop}
    (hk : ∀ w' X' c' ps, Gr w w' → OwnSS 27 3 w' w.heap.size X' c' (toldL (topD gm ws) many most) ps → k (.slice X' (toldL (topD gm ws) many most).length c') w') :
    CallK Try.prog 316 [v, .slice X n0 cx, .int .i64 most, .int .i64 many] k w := by
  subst hn
  obtain ⟨Y, cy, rfl, hc, hy⟩ := hv
  have hn6 := ztc_ hg
  refine enter316 ?_
  unfold S316
  have H := Apt.nil w
  refine boxH H fun b1 w1 H => ?_
  have H := H.drew
  refine ⟨fun w' => Gr w1.drew w', Gr.refl _, ?_⟩
  rw [zmm_ zdb_ sz26 rfl (H.box 0 rfl)]
  rw [zmm_ zdb_ sz26 rfl (H.box 0 rfl)]
  refine l10Sized_c (M := capM) (gm := gm) rfl ⟨Y, cy, rfl, hc, hy.gr H.gr⟩ hg (hX.gr H.gr) rfl hl hw (by omega) fun w3 U c nons hs hp ls ps hnn H3 hh hlf => ?_
  have htab := tabR_of (H3.vv 0 rfl) (H3.fam 1 rfl) hh hlf (by omega)
  have g3 := zf_ H.gr H3.gr
  refine ⟨H3.gr, ?_⟩
  refine rdi (bd274 rfl rfl rfl rfl rfl) ?_
  refine boxHG (Apt.nil w3) fun b2 w5 g5 H5 => ?_
  have E : EnvT gm ws most nons b2 Y cy X cx U c w5 := ⟨H5.box 0 rfl, hc, (hy.gr (zf_ g3 g5)).mono fun _ _ => trivial, hX.gr (zf_ g3 g5), htab.gr g5⟩
  clear H H3 H5
  have gw5 := zf_ g3 g5
  have H := (Apt.nil w5).addLss (Gr.refl w5) (OwnSS.nil w5 w5.heap.size 27 3 fun _ => (none, 0))
  simp only [List.nil_append] at H
  refine zhb_ most 0 (fun n f w' => n ≤ most ∧ f 11 = .int .i64 ((n + 1 : Nat) : Int) ∧ ∃ X' c' ps, f 10 = .slice X' (toldL (topD gm ws) many n).length c' ∧ Apt w5 w' [lss X' c' (toldL (topD gm ws) many n) ps])
    ⟨Nat.zero_le _, rfl, none, 0, _, rfl, H⟩ ?_
  clear H
  rintro n f w6 NN hag ⟨hnm, h11, X1, c1, ps1, h10, H⟩ hN
  have f1 : f 1 = .slice X ws.length cx := hag 1 (by decide)
  have f2 : f 2 = .int .i64 most := hag 2 (by decide)
  have f3 : f 3 = .int .i64 many := hag 3 (by decide)
  have f9 : f 9 = ptrv b2 := hag 9 (by decide)
  have hlen := zhv_ (S := topD gm ws) (many := many) n
  have fin : toldL (topD gm ws) many most = toldL (topD gm ws) many n → k (.slice X1 (toldL (topD gm ws) many n).length c1) w6 := fun e => by
    have := hk w6 X1 c1 ps1 (zf_ gw5 H.gr)
    rw [e] at this
    exact this ((H.lssi 0 rfl).mono gw5.size)
  simp only [f1, f2, f3, f9, h11, h10, zq18, zq19, zq20, zq21, zq22, zq23, zq24, zq25, zq26, zq27, zq28, zq4, zq3, zq1, zq2, zq0, zq29, zq30, zq14, zq15, zq16, zq17, zq13, zq10, zq12, zq11, zq7, zq5, zq6, zq9, zq8, zq31, zq32, ite_T, ite_F, zq33, zq34, zq35, len27, len24, len35, fa26_0, fa26_1, fa26_2, fa33_0, fa33_1, fa124_0, fa124_1, fa274_0, fa274_1, fa274_2, Nat.reduceEqDiff]
  by_cases hlt : n < most
  case neg =>
    simp only [show ¬ (((n + 1 : Nat) : Int) ≤ most) from by omega, decide_false, zq18, zq19, zq20, zq21, zq22, zq23, zq24, zq25, zq26, zq27, zq28, zq4, zq3, zq1, zq2, zq0, zq29, zq30, zq14, zq15, zq16, zq17, zq13, zq10, zq12, zq11, zq7, zq5, zq6, zq9, zq8, zq31, zq32, ite_T, ite_F, zq33, zq34, zq35, len27, len24, len35, fa26_0, fa26_1, fa26_2, fa33_0, fa33_1, fa124_0, fa124_1, fa274_0, fa274_1, fa274_2, Nat.reduceEqDiff]
    exact fin (by rw [show most = n from by omega])
  simp only [show (((n + 1 : Nat) : Int) ≤ most) from by omega, decide_true, zq18, zq19, zq20, zq21, zq22, zq23, zq24, zq25, zq26, zq27, zq28, zq4, zq3, zq1, zq2, zq0, zq29, zq30, zq14, zq15, zq16, zq17, zq13, zq10, zq12, zq11, zq7, zq5, zq6, zq9, zq8, zq31, zq32, ite_T, ite_F, zq33, zq34, zq35, len27, len24, len35, fa26_0, fa26_1, fa26_2, fa33_0, fa33_1, fa124_0, fa124_1, fa274_0, fa274_1, fa274_2, Nat.reduceEqDiff]
  by_cases hfull : (toldL (topD gm ws) many n).length < many
  case neg =>
    simp only [show ¬ (((toldL (topD gm ws) many n).length : Int) < many) from by omega, decide_false, zq18, zq19, zq20, zq21, zq22, zq23, zq24, zq25, zq26, zq27, zq28, zq4, zq3, zq1, zq2, zq0, zq29, zq30, zq14, zq15, zq16, zq17, zq13, zq10, zq12, zq11, zq7, zq5, zq6, zq9, zq8, zq31, zq32, ite_T, ite_F, zq33, zq34, zq35, len27, len24, len35, fa26_0, fa26_1, fa26_2, fa33_0, fa33_1, fa124_0, fa124_1, fa274_0, fa274_1, fa274_2, Nat.reduceEqDiff]
    exact fin (toldL_full hfull (by omega))
  simp only [show (((toldL (topD gm ws) many n).length : Int) < many) from by omega, decide_true, zq18, zq19, zq20, zq21, zq22, zq23, zq24, zq25, zq26, zq27, zq28, zq4, zq3, zq1, zq2, zq0, zq29, zq30, zq14, zq15, zq16, zq17, zq13, zq10, zq12, zq11, zq7, zq5, zq6, zq9, zq8, zq31, zq32, ite_T, ite_F, zq33, zq34, zq35, len27, len24, len35, fa26_0, fa26_1, fa26_2, fa33_0, fa33_1, fa124_0, fa124_1, fa274_0, fa274_1, fa274_2, Nat.reduceEqDiff]
  rw [zj_ (by omega) (by omega), show (many : Int) - ((toldL (topD gm ws) many n).length : Int) = ((many - (toldL (topD gm ws) many n).length : Nat) : Int) from by omega]
  refine l11Make_c hg hl hw hnn hm most (Nat.le_refl _) (A := 0) (i := 0) (j := ws.length) (s := n + 1) (E.gr H.gr) (by omega) (by omega) (Nat.zero_le _) (Nat.le_refl _) (by omega) (by omega) fun w7 X7 c7 ls7 ps7 g7 o7 hF => ?_
  have H := H.addLss g7 o7
  simp only [List.nil_append, List.cons_append] at H
  have hF' : firstsOf (many - (toldL (topD gm ws) many n).length) (topD gm ws (n + 1)) = ls7 := firstsOf_eq hF
  have hl7 := hF.len
  have e : toldL (topD gm ws) many (n + 1) = toldL (topD gm ws) many n ++ ls7 := by rw [toldL, if_pos hfull, hF']
  refine zpu_ H 0 1 (by decide) rfl rfl rfl rfl (by omega) fun X8 c8 w8 ps8 H8 => ?_
  simp only [List.set_cons_zero, List.set_cons_succ] at H8
  have H8 := H8.take 1
  simp only [List.take_succ_cons, List.take_zero] at H8
  rw [zj_ (by omega) (by omega)]
  rw [← e] at H8 ⊢
  exact hN _ _ hlt ⟨hlt, rfl, X8, c8, ps8, rfl, H8⟩
set_option maxHeartbeats 1600000 in
theorem ztt_ {F : Nat → Prop} {w : World} {v : Value} {gm : Gram} {X : Option Addr} {n cx : Nat} {ws : List Int} {most many : Int} (hv : GramV F w v gm) (hX : Ints w X ws) (hn : n = ws.length) {k : Value → World → Prop}
    (hk : ∀ w' U d ps, Gr w w' → OwnSS 27 3 w' w.heap.size U d (treesV gm ws most many).1 ps → k (.tuple #[.slice U (treesV gm ws most many).1.length d, .bool (treesV gm ws most many).2]) w') :
    CallK Try.prog 293 [v, .slice X n cx, .int .i64 most, .int .i64 many] k w := by
  subst hn
  obtain ⟨Y, cy, rfl, hc, hy⟩ := hv
  refine enter293 ?_
  unfold S293
  have H := Apt.nil w
  refine boxH H fun b1 w1 H => ?_
  rw [zv_ zdb_ sz26 rfl (H.box 0 rfl)]
  refine zbt_ (gm := gm) ⟨Y, cy, rfl, hc, hy.gr H.gr⟩ (hX.gr H.gr) rfl fun w2 g2 => ?_
  have H := H.step g2
  have no : (((zy_ gm && zpc_ gm.toks ws) && inB most 0 12) && inB many 0 60) = false → ∀ w', Gr w w' → k (.tuple #[.slice none 0 0, .bool false]) w' := fun h w' g => by
    have := hk w' none 0 (fun _ => (none, 0)) g
    unfold treesV at this
    rw [h, if_neg Bool.false_ne_true] at this
    exact this (OwnSS.nil _ _ _ _ _)
  cases hgw : zy_ gm && zpc_ gm.toks ws
  · simp only [Bool.not_false, go_sem, Nat.reduceEqDiff]
    exact no (by rw [hgw]; rfl) _ H.gr
  simp only [Bool.not_true, go_sem, Nat.reduceEqDiff]
  refine zaf_ ?_
  cases hm : inB most 0 12
  · simp only [Bool.not_false, go_sem, Nat.reduceEqDiff]
    exact no (by rw [hgw, hm]; rfl) _ H.gr
  simp only [Bool.not_true, go_sem, Nat.reduceEqDiff]
  refine zaf_ ?_
  cases hm2 : inB many 0 60
  · simp only [Bool.not_false, go_sem, Nat.reduceEqDiff]
    exact no (by rw [hgw, hm, hm2]; rfl) _ H.gr
  simp only [Bool.not_true, go_sem, Nat.reduceEqDiff]
  unfold treesV at hk
  rw [hgw, hm, hm2, if_pos (show ((true && true) && true) = true from rfl)] at hk
  dsimp only at hk
  simp only [Bool.and_eq_true] at hgw
  simp only [inB, Bool.and_eq_true, decide_eq_true_eq] at hm hm2
  obtain ⟨most, rfl⟩ : ∃ m' : Nat, most = m' := ⟨most.toNat, by omega⟩
  obtain ⟨many, rfl⟩ : ∃ m' : Nat, many = m' := ⟨many.toNat, by omega⟩
  rw [Int.toNat_natCast, Int.toNat_natCast] at hk
  rw [zv_ zdb_ sz26 rfl (H.box 0 rfl)]
  refine l11Trees_c (gm := gm) ⟨Y, cy, rfl, hc, hy.gr H.gr⟩ hgw.1 (hX.gr H.gr) rfl (zxu_ hgw.2) (zyu_ hgw.2 (zie_ hgw.1).2) (by omega) (by omega) fun w3 X3 c3 ps3 g3 o3 => ?_
  exact hk _ _ _ _ (zf_ H.gr g3) (o3.mono H.gr.size)
open Go Go.Sh Go.RowKit Go.Shelf
end Go.Proofs.Ytegcjkhebecgbaa

namespace Go.Sh
open Go
structure IssP (F : Nat → Prop) (w : World) (X : Option Addr) (ls : List (List Int)) (ys : Nat → Option Addr × Nat) : Prop where
  le : ls.length ≤ 9223372036854775807
  ptr : 0 < ls.length → X = some (ad X)
  foot : 0 < ls.length → F (ad X).block
  row : ∀ j, j < ls.length → w.cell? ((ad X).add j) = some (.slice (ys j).1 (rgt ls j).length (ys j).2) ∧ (rgt ls j).length ≤ (ys j).2 ∧ IntsF F w (ys j).1 (rgt ls j)
theorem IssF.pick {F : Nat → Prop} {w : World} {X : Option Addr} {ls : List (List Int)} (h : IssF F w X ls) : ∃ ys, IssP F w X ls ys := by
  classical
  have key : ∀ j, ∃ y : Option Addr × Nat, j < ls.length → w.cell? ((ad X).add j) = some (.slice y.1 (rgt ls j).length y.2) ∧ (rgt ls j).length ≤ y.2 ∧ IntsF F w y.1 (rgt ls j) := fun j => by
    by_cases hj : j < ls.length
    · obtain ⟨Y, c, hr⟩ := h.row j hj
      exact ⟨(Y, c), fun _ => hr⟩
    · exact ⟨(none, 0), fun h => absurd h hj⟩
  exact ⟨fun j => Classical.choose (key j), h.le, h.ptr, h.foot, fun j hj => Classical.choose_spec (key j) hj⟩
theorem IssP.same {F : Nat → Prop} {w w' : World} {X : Option Addr} {ls : List (List Int)} {ys : Nat → Option Addr × Nat} (h : IssP F w X ls ys) (hs : ∀ q, F q → w'.heap[q]? = w.heap[q]?) : IssP F w' X ls ys := ⟨h.le, h.ptr, h.foot, fun j hj => by
  obtain ⟨h1, h2, h3⟩ := h.row j hj
  exact ⟨zem_ h1 (hs _ (by rw [zkc_]; exact h.foot (by omega))), h2, h3.same hs⟩⟩
def rdf (ft : Nat → Prop) (X : Option Addr) (ls : List (List Int)) (ys : Nat → Option Addr × Nat) : Thing := ⟨fun w => IssP ft w X ls ys, ft⟩
theorem Apt.rdf {w0 w : World} {L : List Thing} (H : Apt w0 w L) (i : Nat) {ft : Nat → Prop} {X : Option Addr} {ls : List (List Int)} {ys : Nat → Option Addr × Nat} (hi : L[i]? = some (Sh.rdf ft X ls ys)) : IssP ft w X ls ys := H.get i hi
theorem IssP.take {F : Nat → Prop} {w : World} {X : Option Addr} {ls : List (List Int)} {ys : Nat → Option Addr × Nat} (h : IssP F w X ls ys) (m : Nat) : IssP F w X (ls.take m) ys := by
  refine ⟨by rw [List.length_take]; have := h.le; omega, fun hp => h.ptr (by rw [List.length_take] at hp; omega), fun hp => h.foot (by rw [List.length_take] at hp; omega), fun j hj => ?_⟩
  rw [List.length_take] at hj
  rw [zyg_ (by omega)]
  exact h.row j (by omega)
def Slot (F : Nat → Prop) (w : World) (x : Option Addr × Nat × List Int) : Prop := x.2.2.length ≤ x.2.1 ∧ IntsF F w x.1 x.2.2
def El (F : Nat → Prop) (w : World) : Type := { x : Option Addr × Nat × List Int // Slot F w x }
instance (F : Nat → Prop) (w : World) : Inhabited (El F w) := ⟨⟨(none, 0, []), Nat.le_refl _, IntsF.nil F w⟩⟩
end Go.Sh
namespace Go.Proofs.Ytegcjkhebecgbaa
open Go Go.Sh Go.RowKit Go.Shelf
section
variable {k : Value → World → Prop} {w0 w : World} {L : List Thing}
end
end Go.Proofs.Ytegcjkhebecgbaa

namespace Go.Sh
open Go Go.WideMaps
structure Ent where
  key : Value
  val : Value
  it : Thing
def Robust (it : Thing) (w : World) : Prop := ∀ w', (∀ q, it.ft q → w'.heap[q]? = w.heap[q]?) → it.P w'
theorem Robust.here {it : Thing} {w : World} (h : Robust it w) : it.P w := h w fun _ _ => rfl
theorem Robust.next {it : Thing} {w w' : World} (h : Robust it w) (hs : ∀ q, it.ft q → w'.heap[q]? = w.heap[q]?) : Robust it w' := fun w'' h' => h w'' fun q hq => (h' q hq).trans (hs q hq)
structure MapG (b : Nat) (ents : List Ent) (has : List Value) (w : World) : Prop where
  blk : ∃ es clock, w.heap[b]? = some (.map es clock) ∧ (∀ e ∈ es.toList, ∃ t ∈ ents, e.key = t.key ∧ e.val = t.val) ∧ ∀ x ∈ has, ∃ e ∈ es.toList, e.key = x
  sub : ∀ t ∈ ents, Robust t.it w
  off : ∀ t ∈ ents, ¬ t.it.ft b
def mpG (b : Nat) (ents : List Ent) (has : List Value) : Thing := ⟨MapG b ents has, fun q => q = b ∨ ∃ t ∈ ents, t.it.ft q⟩
theorem MapG.same {b : Nat} {ents : List Ent} {has : List Value} {w w' : World} (h : MapG b ents has w) (hs : ∀ q, (mpG b ents has).ft q → w'.heap[q]? = w.heap[q]?) : MapG b ents has w' := by
  obtain ⟨⟨es, clock, h1, h2, h3⟩, h4, h5⟩ := h
  exact ⟨⟨es, clock, by rw [hs b (.inl rfl)]; exact h1, h2, h3⟩, fun t ht => (h4 t ht).next fun q hq => hs q (.inr ⟨t, ht, hq⟩), h5⟩
section
variable {P : Program} {k : Value → World → Prop} {w0 w : World} {L : List Thing} {ents : List Ent} {has : List Value}
end
end Go.Sh
namespace Go.Proofs.Ytegcjkhebecgbaa
open Go Go.Sh Go.RowKit Go.WideMaps
end Go.Proofs.Ytegcjkhebecgbaa

namespace Go.Sh
open Go
theorem rise_nodup {l : List (List Int)} (h : Rise l) : l.Nodup := h.imp fun h e => by
  subst e
  exact ztd_ _ h
structure Coll (M : Nat) (S : List Int → Prop) (l : List (List Int)) : Prop where
  nodup : l.Nodup
  mem : ∀ x ∈ l, S x
  all : ∀ x, S x → x ∈ l ∨ Under M (fun y => y ∈ l) x
section
variable {M : Nat} {S S' : List Int → Prop} {l l' : List (List Int)}
theorem Coll.nil (h : ∀ x, ¬ S x) : Coll M S [] := ⟨List.nodup_nil, fun x hx => by simp at hx, fun x hx => absurd hx (h x)⟩
theorem Coll.congr (h : Coll M S l) (e : ∀ x, S' x ↔ S x) : Coll M S' l := ⟨h.nodup, fun x hx => (e x).2 (h.mem x hx), fun x hx => h.all x ((e x).1 hx)⟩
theorem Coll.append (h : Coll M S l) (h' : Firsts M S' l') (hd : ∀ x, S x → ¬ S' x) : Coll M (fun z => S z ∨ S' z) (l ++ l') := by
  refine ⟨List.nodup_append.2 ⟨h.nodup, rise_nodup h'.rise, fun a ha b hb e => ?_⟩, fun x hx => ?_, fun x hx => ?_⟩
  · subst e
    exact hd a (h.mem a ha) (h'.mem a hb)
  · rcases List.mem_append.1 hx with e | e
    · exact .inl (h.mem x e)
    · exact .inr (h'.mem x e)
  · rcases hx with hx | hx
    · rcases h.all x hx with e | e
      · exact .inl (List.mem_append_left _ e)
      · exact .inr (e.mono fun y hy => List.mem_append_left _ hy)
    · rcases h'.all x hx with e | ⟨e1, e2⟩
      · exact .inl (List.mem_append_right _ e)
      · exact .inr ⟨l', h'.rise, e1, fun y hy => ⟨List.mem_append_right _ hy, e2 y hy⟩⟩
theorem Coll.done (h : Coll M S l) (hp : l'.Perm l) (hs : l'.Pairwise (fun a b => ¬ ltL b a)) : Firsts M S (l'.take M) := Firsts.sorted hp hs h.nodup h.mem h.all
end
def GoodT (M : Nat) (rs : List RuleL) (ws : List Int) (ents : List Ent) : Prop :=
  ∀ t ∈ ents, ∃ a i j s, a ≤ 1000 ∧ i ≤ 1000 ∧ j ≤ 1000 ∧ s ≤ 1000 ∧ t.key = keyV a i j s ∧ ∃ X c l ft ys, t.val = .slice X (List.length l) c ∧ t.it = rdf ft X l ys ∧ l.length ≤ c ∧ ∀ q p, a = q * 5 + p → p ≤ 4 → q < 100 → Firsts M (Der rs ws (.inr ((rul rs q).2.drop p)) i j s) l
def Held (ents : List Ent) (X : Option Addr) (l : List (List Int)) : Prop := l = [] ∨ ∃ t ∈ ents, ∃ ft ys, t.it = rdf ft X l ys
theorem Held.mono {ents ents' : List Ent} {X : Option Addr} {l : List (List Int)} (h : Held ents X l) (hs : ∀ t ∈ ents, t ∈ ents') : Held ents' X l := by
  rcases h with h | ⟨t, ht, ft, ys, e⟩
  · exact .inl h
  · exact .inr ⟨t, hs t ht, ft, ys, e⟩
theorem Held.read {ents : List Ent} {X : Option Addr} {l : List (List Int)} (h : Held ents X l) : ∃ ys, ∀ {w0 w : World} {L : List Thing} {b : Nat} {has : List Value}, Apt w0 w L → (i : Nat) → L[i]? = some (mpG b ents has) → IssP (fun _ => True) w X l ys := by
  rcases h with rfl | ⟨t, ht, ft, ys, e⟩
  · exact ⟨fun _ => (none, 0), fun {w0 w L b has} H i hi => ⟨by simp, fun h => by simp at h, fun h => trivial, fun j h => by simp at h⟩⟩
  · refine ⟨ys, fun {w0 w L b has} H i hi => ?_⟩
    have h1 : MapG b ents has w := H.get i hi
    have h2 := (h1.sub t ht).here
    rw [e] at h2
    have h3 : IssP ft w X l ys := h2
    exact ⟨h3.le, h3.ptr, fun _ => trivial, fun j hj => by
      obtain ⟨a, b, c⟩ := h3.row j hj
      exact ⟨a, b, c.mono fun _ _ => trivial⟩⟩
theorem GoodT.get {M : Nat} {rs : List RuleL} {ws : List Int} {ents : List Ent} (h : GoodT M rs ws ents) {e : Ent} (he : e ∈ ents) {q p i j s : Nat} (hk : e.key = keyV (q * 5 + p) i j s) (hp : p ≤ 4) (hq : q < 100) : ∃ X c l ft ys, e.val = .slice X (List.length l) c ∧ e.it = rdf ft X l ys ∧ l.length ≤ c ∧ Firsts M (Der rs ws (.inr ((rul rs q).2.drop p)) i j s) l := by
  obtain ⟨a, i', j', s', h1, h2, h3, h4, h5, X, c, l, ft, ys, h6, h7, h8, h9⟩ := h e he
  rw [h5] at hk
  obtain ⟨e1, e2, e3, e4⟩ := keyV_inj hk
  subst e2 e3 e4
  exact ⟨X, c, l, ft, ys, h6, h7, h8, h9 q p e1 hp hq⟩
end Go.Sh
namespace Go.Proofs.Ytegcjkhebecgbaa
open Go Go.Sh Go.RowKit Go.WideMaps
section
variable {k : Value → World → Prop} {w0 w : World} {L : List Thing}
end
section
variable {F : Nat → Prop} {w0 : World} {gm : Gram} {X Y : Option Addr} {cx cy be bt bm M : Nat} {ws : List Int} {L : List Ent → List Value → List Thing → List Thing}
end
open Go Go.Sh Go.RowKit
end Go.Proofs.Ytegcjkhebecgbaa

namespace Go.Sh
open Go
end Go.Sh
namespace Go.Proofs.Ytegcjkhebecgbaa
open Go Go.Sh Go.RowKit
end Go.Proofs.Ytegcjkhebecgbaa

namespace Go.Sh
open Go
end Go.Sh
namespace Go.Proofs.Ytegcjkhebecgbaa
open Go Go.Sh Go.RowKit Go.WideMaps
section
variable {F : Nat → Prop} {w0 : World} {gm : Gram} {Y X Q : Option Addr} {cy cx cq bc bm nons : Nat} {ws cs : List Int} {T : CT} {M : List Ent → List Value → List Thing → List Thing}
end
section
variable {F : Nat → Prop} {w0 : World} {gm : Gram} {Y X Q : Option Addr} {cy cx cq bc bm nons : Nat} {ws cs : List Int} {T : CT} {M : List Ent → List Value → List Thing → List Thing}
end
section
variable {F : Nat → Prop} {w0 : World} {gm : Gram} {X Y : Option Addr} {cx cy be bt bm M : Nat} {ws : List Int} {L : List Ent → List Value → List Thing → List Thing}
end
open Go Go.Sh

end Go.Proofs.Ytegcjkhebecgbaa

namespace Go.Sh
open Go
def putL (n : Int) : List Int → List Int
  | [] => [n]
  | x :: xs => if x < n then x :: putL n xs else if x = n then x :: xs else n :: x :: xs
abbrev RiseI (xs : List Int) : Prop := xs.Pairwise fun a b => a < b
theorem ztf_ {x : Int} {xs : List Int} : RiseI (x :: xs) ↔ (∀ b ∈ xs, x < b) ∧ RiseI xs := List.pairwise_cons
theorem putL_mem {n m : Int} : ∀ {xs : List Int}, m ∈ putL n xs ↔ m = n ∨ m ∈ xs := by
  intro xs
  induction xs with
  | nil => simp [putL]
  | cons x xs ih =>
    unfold putL
    split
    · rw [List.mem_cons, ih, List.mem_cons]
      constructor
      · rintro (h | h | h)
        · exact .inr (.inl h)
        · exact .inl h
        · exact .inr (.inr h)
      · rintro (h | h | h)
        · exact .inr (.inl h)
        · exact .inl h
        · exact .inr (.inr h)
    · split
      · rename_i h
        subst h
        rw [List.mem_cons]
        constructor
        · exact fun h => .inr h
        · rintro (h | h)
          · exact .inl h
          · exact h
      · rw [List.mem_cons]
theorem putL_rise {n : Int} : ∀ {xs : List Int}, RiseI xs → RiseI (putL n xs) := by
  intro xs
  induction xs with
  | nil => intro _; simp [putL]
  | cons x xs ih =>
    intro h
    rw [ztf_] at h
    unfold putL
    split
    · rename_i hx
      rw [ztf_]
      refine ⟨fun b hb => ?_, ih h.2⟩
      rcases putL_mem.1 hb with rfl | hb
      · exact hx
      · exact h.1 b hb
    · split
      · rw [ztf_]
        exact h
      · rw [ztf_, ztf_]
        refine ⟨fun b hb => ?_, h⟩
        rcases List.mem_cons.1 hb with rfl | hb
        · omega
        · have := h.1 b hb
          omega
theorem rise_ext : ∀ {xs ys : List Int}, RiseI xs → RiseI ys → (∀ m, m ∈ xs ↔ m ∈ ys) → xs = ys := by
  intro xs
  induction xs with
  | nil =>
    intro ys _ _ h
    cases ys with
    | nil => rfl
    | cons y ys => exact absurd ((h y).2 (List.mem_cons_self ..)) (by simp)
  | cons x xs ih =>
    intro ys hx hy h
    rw [ztf_] at hx
    cases ys with
    | nil => exact absurd ((h x).1 (List.mem_cons_self ..)) (by simp)
    | cons y ys =>
      rw [ztf_] at hy
      have e : x = y := by
        have h1 := (h x).1 (List.mem_cons_self ..)
        have h2 := (h y).2 (List.mem_cons_self ..)
        rcases List.mem_cons.1 h1 with e | h1
        · exact e
        · rcases List.mem_cons.1 h2 with e | h2
          · exact e.symm
          · have := hy.1 x h1
            have := hx.1 y h2
            omega
      subst e
      congr 1
      refine ih hx.2 hy.2 fun m => ?_
      have hm := h m
      rw [List.mem_cons, List.mem_cons] at hm
      constructor
      · intro h1
        rcases hm.1 (.inr h1) with rfl | h2
        · exact absurd (hx.1 m h1) (by omega)
        · exact h2
      · intro h1
        rcases hm.2 (.inr h1) with rfl | h2
        · exact absurd (hy.1 m h1) (by omega)
        · exact h2
open Classical in
noncomputable def setL (n : Nat) (P : Nat → Prop) : List Int := ((List.range n).filter fun a => decide (P a)).map fun (a : Nat) => (a : Int)
open Classical in
theorem setL_mem {n : Nat} {P : Nat → Prop} {m : Int} : m ∈ setL n P ↔ ∃ a : Nat, m = a ∧ a < n ∧ P a := by
  unfold setL
  rw [List.mem_map]
  constructor
  · rintro ⟨a, ha, rfl⟩
    rw [List.mem_filter, List.mem_range, decide_eq_true_eq] at ha
    exact ⟨a, rfl, ha⟩
  · rintro ⟨a, rfl, ha⟩
    exact ⟨a, by rw [List.mem_filter, List.mem_range, decide_eq_true_eq]; exact ha, rfl⟩
theorem setL_rise (n : Nat) (P : Nat → Prop) : RiseI (setL n P) := by
  unfold RiseI setL
  rw [List.pairwise_map]
  refine (List.Pairwise.sublist List.filter_sublist ?_)
  have := List.pairwise_lt_range (n := n)
  exact this.imp fun h => by omega
theorem rise_len : ∀ {xs : List Int} {a n : Int}, RiseI xs → (∀ x ∈ xs, a ≤ x ∧ x < n) → a ≤ n → (xs.length : Int) ≤ n - a := by
  intro xs
  induction xs with
  | nil => intro a n _ _ h; simp; omega
  | cons x xs ih =>
    intro a n h hb ha
    rw [ztf_] at h
    have h1 := hb x (List.mem_cons_self ..)
    have := ih (a := x + 1) (n := n) h.2 (fun y hy => by have := h.1 y hy; have := hb y (List.mem_cons_of_mem _ hy); omega) (by omega)
    rw [List.length_cons]
    omega
end Go.Sh
namespace Go.Proofs.Ytegcjkhebecgbaa
open Go Go.Sh Go.RowKit
end Go.Proofs.Ytegcjkhebecgbaa

namespace Go.Sh
open Go
structure SetOk (P : Nat → Prop) (nons : Nat) (out : List Int) : Prop where
  rise : RiseI out
  ok : ∀ x ∈ out, ∃ A : Nat, x = A ∧ A < nons ∧ P A
theorem SetOk.len {P : Nat → Prop} {nons : Nat} {out : List Int} (h : SetOk P nons out) : out.length ≤ nons := by
  have := rise_len (a := 0) (n := nons) h.rise (fun x hx => by obtain ⟨A, rfl, h1, _⟩ := h.ok x hx; omega) (by omega)
  omega
theorem SetOk.put {P : Nat → Prop} {nons A : Nat} {out : List Int} (h : SetOk P nons out) (hA : A < nons) (hP : P A) : SetOk P nons (putL (A : Int) out) :=
  ⟨putL_rise h.rise, fun x hx => by
    rcases putL_mem.1 hx with rfl | hx
    · exact ⟨A, rfl, hA, hP⟩
    · exact h.ok x hx⟩
theorem SetOk.eq {P : Nat → Prop} {nons : Nat} {out : List Int} (h : SetOk P nons out) (hc : ∀ A : Nat, A < nons → P A → (A : Int) ∈ out) : out = setL nons P := by
  refine rise_ext h.rise (setL_rise _ _) fun m => ?_
  rw [setL_mem]
  constructor
  · exact fun hm => by
      obtain ⟨A, e, h1, h2⟩ := h.ok m hm
      exact ⟨A, e, h1, h2⟩
  · rintro ⟨A, rfl, h1, h2⟩
    exact hc A h1 h2
theorem SetOk.nil (P : Nat → Prop) (nons : Nat) : SetOk P nons [] := ⟨.nil, fun x hx => by simp at hx⟩
noncomputable def cloV (gm : Gram) (tok : Bool) : List Int := setL gm.nons.toNat (Clo gm.rules tok)
end Go.Sh
namespace Go.Proofs.Ytegcjkhebecgbaa
open Go Go.Sh Go.RowKit
section
variable {w : World} {Y : Option Addr} {cy : Nat} {gm : Gram} {k : Value → World → Prop}
end
end Go.Proofs.Ytegcjkhebecgbaa

namespace Go.Sh
open Go
def lat (L : List Int) (n : Nat) : Int := L.getD n (-1)
def SndL (rs : List RuleL) (L : List Int) : Prop := ∀ n : Nat, 0 ≤ lat L n → ∃ u, Yi rs (.inl n) u ∧ (u.length : Int) = lat L n
def cntL (L : List Int) : Nat := L.countP fun n => decide (0 ≤ n)
def BdL (L : List Int) : Prop := ∀ n, lat L n ≤ ((4 ^ cntL L : Nat) : Int)
structure OkL (rs : List RuleL) (m : Nat) (L : List Int) : Prop where
  len : L.length = m
  snd : SndL rs L
  bd : BdL L
inductive Gro (rs : List RuleL) : Nat → Prop
  | tok {A : Nat} {r : RuleL} {x : Int} : r ∈ rs → r.1 = (A : Int) → (∀ x ∈ r.2, ¬ x < 0 → Clo rs true x.toNat) → x ∈ r.2 → x < 0 → Gro rs A
  | non {A : Nat} {r : RuleL} {x : Int} : r ∈ rs → r.1 = (A : Int) → (∀ x ∈ r.2, ¬ x < 0 → Clo rs true x.toNat) → x ∈ r.2 → ¬ x < 0 → Gro rs x.toNat → Gro rs A
end Go.Sh
namespace Go.Proofs.Ytegcjkhebecgbaa
open Go Go.Sh Go.RowKit
section
variable {w : World} {Y : Option Addr} {cy : Nat} {gm : Gram} {k : Value → World → Prop}
end
end Go.Proofs.Ytegcjkhebecgbaa

namespace Go.Sh
open Go
theorem ziv_ {gm : Gram} (hg : zy_ gm = true) : ∀ r ∈ gm.rules, (0 ≤ r.1 ∧ r.1 < gm.nons) ∧ r.2.length ≤ 4 ∧ ∀ x ∈ r.2, -gm.toks ≤ x ∧ x < gm.nons := fun r hr => by
  obtain ⟨i, hi, rfl⟩ := List.getElem_of_mem hr
  have h1 := zig_ hg hi
  have h2 := zpj_ hg hi
  rw [zpf_ hi] at h1 h2
  exact ⟨by omega, h2.1, fun x hx => by have := h2.2 x hx; omega⟩
end Go.Sh
namespace Go.Proofs.Ytegcjkhebecgbaa
open Go Go.Sh Go.RowKit
section
variable {w : World} {Y : Option Addr} {cy : Nat} {gm : Gram} {k : Value → World → Prop}
end
end Go.Proofs.Ytegcjkhebecgbaa

namespace Go.Sh
open Go
section
variable {E G : Nat → Nat → Prop}
inductive Pk (E : Nat → Nat → Prop) (k : Nat) : Nat → Nat → Prop
  | one {a b : Nat} : E a b → Pk E k a b
  | thru {a m b : Nat} : m < k → Pk E k a m → Pk E k m b → Pk E k a b
inductive Rk (E G : Nat → Nat → Prop) (k : Nat) : Nat → Nat → Prop
  | one {a b : Nat} : G a b → Rk E G k a b
  | left {a m b : Nat} : m < k → Pk E k a m → Rk E G k m b → Rk E G k a b
  | right {a m b : Nat} : m < k → Rk E G k a m → Pk E k m b → Rk E G k a b
theorem pk_ends {n k : Nat} (hE : ∀ a b, E a b → a < n ∧ b < n) {a b : Nat} (p : Pk E k a b) : a < n ∧ b < n := by
  induction p with
  | one h1 => exact hE _ _ h1
  | thru _ _ _ ih1 ih2 => exact ⟨ih1.1, ih2.2⟩
theorem rk_ends {n k : Nat} (hE : ∀ a b, E a b → a < n ∧ b < n) (hG : ∀ a b, G a b → E a b) {a b : Nat} (p : Rk E G k a b) : a < n ∧ b < n := by
  induction p with
  | one h1 => exact hE _ _ (hG _ _ h1)
  | left _ h2 _ ih => exact ⟨(pk_ends hE h2).1, ih.2⟩
  | right _ _ h2 ih => exact ⟨ih.1, (pk_ends hE h2).2⟩
theorem pk_succ {k a b : Nat} (p : Pk E (k + 1) a b) : Pk E k a b ∨ (Pk E k a k ∧ Pk E k k b) := by
  induction p with
  | one h => exact .inl (.one h)
  | @thru a m b hm _ _ ih1 ih2 =>
    by_cases e : m = k
    · subst e
      have h1 : Pk E m a m := ih1.elim id fun h => h.1
      have h2 : Pk E m m b := ih2.elim id fun h => h.2
      exact .inr ⟨h1, h2⟩
    · have hm : m < k := by omega
      rcases ih1 with h1 | ⟨h1, h1'⟩
      · rcases ih2 with h2 | ⟨h2, h2'⟩
        · exact .inl (.thru hm h1 h2)
        · exact .inr ⟨.thru hm h1 h2, h2'⟩
      · rcases ih2 with h2 | ⟨h2, h2'⟩
        · exact .inr ⟨h1, .thru hm h1' h2⟩
        · exact .inr ⟨h1, h2'⟩
theorem rk_succ {k a b : Nat} (p : Rk E G (k + 1) a b) : Rk E G k k k ∨ Rk E G k a b ∨ (Pk E k a k ∧ Rk E G k k b) ∨ (Rk E G k a k ∧ Pk E k k b) := by
  induction p with
  | one h => exact .inr (.inl (.one h))
  | @left a m b hm hp _ ih =>
    rcases ih with h | h
    · exact .inl h
    have hp := pk_succ hp
    by_cases e : m = k
    · subst e
      have h1 : Pk E m a m := hp.elim id fun h => h.1
      rcases h with h | ⟨h2, h3⟩ | ⟨h2, h3⟩
      · exact .inr (.inr (.inl ⟨h1, h⟩))
      · exact .inr (.inr (.inl ⟨h1, h3⟩))
      · exact .inl h2
    · have hm : m < k := by omega
      rcases hp with h1 | ⟨h1, h1'⟩
      · rcases h with h | ⟨h2, h3⟩ | ⟨h2, h3⟩
        · exact .inr (.inl (.left hm h1 h))
        · exact .inr (.inr (.inl ⟨.thru hm h1 h2, h3⟩))
        · exact .inr (.inr (.inr ⟨.left hm h1 h2, h3⟩))
      · rcases h with h | ⟨h2, h3⟩ | ⟨h2, h3⟩
        · exact .inr (.inr (.inl ⟨h1, .left hm h1' h⟩))
        · exact .inr (.inr (.inl ⟨h1, h3⟩))
        · exact .inl (.left hm h1' h2)
  | @right a m b hm _ hp ih =>
    rcases ih with h | h
    · exact .inl h
    have hp := pk_succ hp
    by_cases e : m = k
    · subst e
      have h1 : Pk E m m b := hp.elim id fun h => h.2
      rcases h with h | ⟨h2, h3⟩ | ⟨h2, h3⟩
      · exact .inr (.inr (.inr ⟨h, h1⟩))
      · exact .inl h3
      · exact .inr (.inr (.inr ⟨h2, h1⟩))
    · have hm : m < k := by omega
      rcases hp with h1 | ⟨h1, h1'⟩
      · rcases h with h | ⟨h2, h3⟩ | ⟨h2, h3⟩
        · exact .inr (.inl (.right hm h h1))
        · exact .inr (.inr (.inl ⟨h2, .right hm h3 h1⟩))
        · exact .inr (.inr (.inr ⟨h2, .thru hm h3 h1⟩))
      · rcases h with h | ⟨h2, h3⟩ | ⟨h2, h3⟩
        · exact .inr (.inr (.inr ⟨.right hm h h1, h1'⟩))
        · exact .inl (.right hm h3 h1)
        · exact .inr (.inr (.inr ⟨h2, h1'⟩))
def CycB (E G : Nat → Nat → Prop) (n : Nat) : Prop := ∃ a b, G a b ∧ (a = b ∨ Pk E n b a)
abbrev Tb2 := Nat → Nat → Bool
def leT (A B : Tb2) : Prop := ∀ a b, A a b = true → B a b = true
theorem leT_refl (A : Tb2) : leT A A := fun _ _ h => h
def setT (A : Tb2) (a b : Nat) (v : Bool) : Tb2 := fun x y => if x = a ∧ y = b then v else A x y
theorem setT_le {A : Tb2} {a b : Nat} {v : Bool} (h : A a b = true → v = true) : leT A (setT A a b v) := fun x y hx => by
  unfold setT
  split
  · rename_i e
    obtain ⟨rfl, rfl⟩ := e
    exact h hx
  · exact hx
structure SndT (E G : Nat → Nat → Prop) (n : Nat) (A M : Tb2) : Prop where
  all : ∀ a b, A a b = true → Pk E n a b
  more : ∀ a b, M a b = true → Rk E G n a b
structure CmpT (E G : Nat → Nat → Prop) (n k : Nat) (A M : Tb2) : Prop where
  all : ∀ a b, Pk E k a b → A a b = true
  more : (∃ a, a < n ∧ M a a = true) ∨ ∀ a b, Rk E G k a b → M a b = true
structure MidT (E G : Nat → Nat → Prop) (n k a b : Nat) (A0 M0 A M : Tb2) : Prop where
  snd : SndT E G n A M
  le1 : leT A0 A
  le2 : leT M0 M
  all : ∀ x y, (x < a ∨ (x = a ∧ y < b)) → y < n → A0 x k = true → A0 k y = true → A x y = true
  more : ∀ x y, (x < a ∨ (x = a ∧ y < b)) → y < n → ((A0 x k = true ∧ M0 k y = true) ∨ (M0 x k = true ∧ A0 k y = true)) → M x y = true
theorem MidT.start {n k : Nat} {A M : Tb2} (h : SndT E G n A M) : MidT E G n k 0 0 A M A M :=
  ⟨h, leT_refl _, leT_refl _, fun x y h => by omega, fun x y h => by omega⟩
theorem MidT.step {n k a b : Nat} {A0 M0 A M : Tb2} (hk : k < n) (h : MidT E G n k a b A0 M0 A M) :
    MidT E G n k a (b + 1) A0 M0 (setT A a b (A a b || (A a k && A k b))) (setT M a b ((M a b || (A a k && M k b)) || (M a k && A k b))) := by
  have l1 : leT A (setT A a b (A a b || (A a k && A k b))) := setT_le fun h => by rw [h]; rfl
  have l2 : leT M (setT M a b ((M a b || (A a k && M k b)) || (M a k && A k b))) := setT_le fun h => by rw [h]; rfl
  refine ⟨⟨fun x y hx => ?_, fun x y hx => ?_⟩, fun x y hx => l1 _ _ (h.le1 _ _ hx), fun x y hx => l2 _ _ (h.le2 _ _ hx), fun x y hc hy h1 h2 => ?_, fun x y hc hy h1 => ?_⟩
  · unfold setT at hx
    split at hx
    · rename_i e
      obtain ⟨rfl, rfl⟩ := e
      simp only [Bool.or_eq_true, Bool.and_eq_true] at hx
      rcases hx with hx | ⟨h1, h2⟩
      · exact h.snd.all _ _ hx
      · exact .thru hk (h.snd.all _ _ h1) (h.snd.all _ _ h2)
    · exact h.snd.all _ _ hx
  · unfold setT at hx
    split at hx
    · rename_i e
      obtain ⟨rfl, rfl⟩ := e
      simp only [Bool.or_eq_true, Bool.and_eq_true] at hx
      rcases hx with (hx | ⟨h1, h2⟩) | ⟨h1, h2⟩
      · exact h.snd.more _ _ hx
      · exact .left hk (h.snd.all _ _ h1) (h.snd.more _ _ h2)
      · exact .right hk (h.snd.more _ _ h1) (h.snd.all _ _ h2)
    · exact h.snd.more _ _ hx
  · by_cases e : x = a ∧ y = b
    · obtain ⟨rfl, rfl⟩ := e
      unfold setT
      rw [if_pos ⟨rfl, rfl⟩, h.le1 _ _ h1, h.le1 _ _ h2]
      simp
    · exact l1 _ _ (h.all x y (by omega) hy h1 h2)
  · by_cases e : x = a ∧ y = b
    · obtain ⟨rfl, rfl⟩ := e
      unfold setT
      rw [if_pos ⟨rfl, rfl⟩]
      rcases h1 with ⟨h1, h2⟩ | ⟨h1, h2⟩
      · rw [h.le1 _ _ h1, h.le2 _ _ h2]
        simp
      · rw [h.le2 _ _ h1, h.le1 _ _ h2]
        simp
    · exact l2 _ _ (h.more x y (by omega) hy h1)
theorem MidT.row {n k a : Nat} {A0 M0 A M : Tb2} (h : MidT E G n k a n A0 M0 A M) : MidT E G n k (a + 1) 0 A0 M0 A M :=
  ⟨h.snd, h.le1, h.le2, fun x y hc hy => h.all x y (by omega) hy, fun x y hc hy => h.more x y (by omega) hy⟩
theorem MidT.done {n k : Nat} {A0 M0 A M : Tb2} (hE : ∀ a b, E a b → a < n ∧ b < n) (hG : ∀ a b, G a b → E a b) (hk : k < n) (h : MidT E G n k n 0 A0 M0 A M) (hc : CmpT E G n k A0 M0) : CmpT E G n (k + 1) A M := by
  refine ⟨fun a b hp => ?_, ?_⟩
  · have he := pk_ends hE hp
    rcases pk_succ hp with hp | ⟨h1, h2⟩
    · exact h.le1 _ _ (hc.all _ _ hp)
    · exact h.all a b (by omega) he.2 (hc.all _ _ h1) (hc.all _ _ h2)
  · rcases hc.more with ⟨a, ha, hm⟩ | hm
    · exact .inl ⟨a, ha, h.le2 _ _ hm⟩
    · by_cases hd : Rk E G k k k
      · exact .inl ⟨k, hk, h.le2 _ _ (hm _ _ hd)⟩
      · refine .inr fun a b hr => ?_
        have he := rk_ends hE hG hr
        rcases rk_succ hr with hr | hr | ⟨h1, h2⟩ | ⟨h1, h2⟩
        · exact absurd hr hd
        · exact h.le2 _ _ (hm _ _ hr)
        · exact h.more a b (by omega) he.2 (.inl ⟨hc.all _ _ h1, hm _ _ h2⟩)
        · exact h.more a b (by omega) he.2 (.inr ⟨hm _ _ h1, hc.all _ _ h2⟩)
theorem CmpT.zero {n : Nat} {A M : Tb2} (h1 : ∀ a b, E a b → A a b = true) (h2 : ∀ a b, G a b → M a b = true) : CmpT E G n 0 A M := by
  refine ⟨fun a b p => ?_, .inr fun a b p => ?_⟩
  · cases p with
    | one h => exact h1 _ _ h
    | thru h => omega
  · cases p with
    | one h => exact h2 _ _ h
    | left h => omega
    | right h => omega
end
def EdR (rs : List RuleL) (a b : Nat) : Prop := ∃ r ∈ rs, r.1 = (a : Int) ∧ ∃ i, i < r.2.length ∧ r.2.getD i 0 = (b : Int)
def growX (rs : List RuleL) (y : Int) : Prop := y < 0 ∨ Gro rs y.toNat
def EgR (rs : List RuleL) (a b : Nat) : Prop := ∃ r ∈ rs, r.1 = (a : Int) ∧ ∃ i j, i < r.2.length ∧ j < r.2.length ∧ i ≠ j ∧ r.2.getD i 0 = (b : Int) ∧ growX rs (r.2.getD j 0)
open Classical in
noncomputable def finiteV (gm : Gram) : Bool × Bool := if zy_ gm = true then (!decide (CycB (EdR (usefulR gm.rules)) (EgR (usefulR gm.rules)) 6), true) else (false, false)
section
variable {F : Nat → Prop} {w w' : World} {rs : List RuleL} {cells : List Value}
theorem OwnG.readF {e B c : Nat} {X : Option Addr} (h : OwnG e F w B X c rs) : RulesF (fun q => blk X = some q ∨ F q) w X rs := by
  obtain ⟨cells, h1, h2⟩ := h
  have hcap := Row.cap h1
  refine ⟨by omega, fun hp => h1.ptr hp, fun hp => .inl ?_, fun j hj => ?_⟩
  · have := h1.ptr hp
    conv => lhs; rw [this]
    rfl
  · obtain ⟨Y, d, a1, a2, a3, a4⟩ := h2.cell j hj
    exact ⟨Y, d, h1.src.cell _ _ a1, h1.src.cell _ _ a2, a3, a4.mono fun _ hq => .inr hq.1⟩
theorem Row.readF {e c B : Nat} {X : Option Addr} (h1 : Row w B e 2 X rs.length c cells) (h2 : RuleCells F w rs cells) : RulesF (fun q => blk X = some q ∨ F q) w X rs := by
  have hcap := Row.cap h1
  refine ⟨by omega, fun hp => h1.ptr hp, fun hp => .inl ?_, fun j hj => ?_⟩
  · have := h1.ptr hp
    conv => lhs; rw [this]
    rfl
  · obtain ⟨Y, d, a1, a2, a3, a4⟩ := h2.cell j hj
    exact ⟨Y, d, h1.src.cell _ _ a1, h1.src.cell _ _ a2, a3, a4.mono fun _ hq => .inr hq⟩
end
noncomputable def usefulG (gm : Gram) : Gram := ⟨gm.nons, gm.toks, usefulR gm.rules⟩
end Go.Sh
namespace Go.Proofs.Ytegcjkhebecgbaa
open Go Go.Sh Go.RowKit
section
variable {w0 w : World} {L : List Thing} {k : Value → World → Prop}
end
section
variable {w : World} {Y : Option Addr} {cy : Nat} {gm : Gram} {k : Value → World → Prop}
end
end Go.Proofs.Ytegcjkhebecgbaa

namespace Go.Sh
open Go
theorem RulesF.same {F : Nat → Prop} {w w' : World} {X : Option Addr} {rs : List RuleL} (h : RulesF F w X rs) (hs : ∀ q, F q → w'.heap[q]? = w.heap[q]?) : RulesF F w' X rs := by
  refine ⟨h.le, h.ptr, h.foot, fun j hj => ?_⟩
  obtain ⟨Y, c, h1, h2, h3, h4⟩ := h.row j hj
  have hb : w'.heap[(ad X).block]? = w.heap[(ad X).block]? := hs _ (h.foot (by omega))
  have cell : ∀ i, w'.cell? ((ad X).add i) = w.cell? ((ad X).add i) := fun i => by
    unfold World.cell?
    rw [zkc_, hb]
  exact ⟨Y, c, by rw [cell]; exact h1, by rw [cell]; exact h2, h3, h4.same' hs⟩
end Go.Sh
namespace Go.Proofs.Ytegcjkhebecgbaa
open Go Go.Sh Go.RowKit
section
variable {w : World} {Y X Z : Option Addr} {cy cx cz : Nat} {gm g2 : Gram} {ws : List Int} {k : Value → World → Prop}
end
end Go.Proofs.Ytegcjkhebecgbaa

namespace Go.Sh
open Go
noncomputable def usefulV (gm : Gram) : Gram × Bool := if zy_ gm = true then (usefulG gm, true) else (⟨0, 0, []⟩, false)
end Go.Sh
namespace Go.Proofs.Ytegcjkhebecgbaa
open Go Go.Sh Go.RowKit
section
variable {w : World} {Y : Option Addr} {cy : Nat} {gm : Gram} {k : Value → World → Prop}
end
open Go Go.Sh

end Go.Proofs.Ytegcjkhebecgbaa

namespace Go.Sh
open Go
end Go.Sh
namespace Go.Proofs.Ytegcjkhebecgbaa
open Go Go.Sh Go.RowKit
section
variable {w : World} {k : Value → World → Prop} {Y : Option Addr} {cy : Nat} {gm : Gram}
end
end Go.Proofs.Ytegcjkhebecgbaa

namespace Go.Sh
open Go
end Go.Sh
namespace Go.Proofs.Ytegcjkhebecgbaa
open Go Go.Sh Go.RowKit
section
variable {w : World} {k : Value → World → Prop} {Y : Option Addr} {cy : Nat} {gm : Gram}
end
end Go.Proofs.Ytegcjkhebecgbaa

namespace Go.Sh
open Go
end Go.Sh
namespace Go.Proofs.Ytegcjkhebecgbaa
open Go Go.Sh Go.RowKit
section
variable {w : World} {k : Value → World → Prop} {Y : Option Addr} {cy : Nat} {gm : Gram}
end
end Go.Proofs.Ytegcjkhebecgbaa

namespace Go.Sh
open Go
end Go.Sh
namespace Go.Proofs.Ytegcjkhebecgbaa
open Go Go.Sh Go.RowKit
section
variable {w : World} {k : Value → World → Prop} {Y : Option Addr} {cy : Nat} {gm : Gram}
end
end Go.Proofs.Ytegcjkhebecgbaa

namespace Go.Sh
open Go
end Go.Sh
namespace Go.Proofs.Ytegcjkhebecgbaa
open Go Go.Sh Go.RowKit
section
variable {w : World} {k : Value → World → Prop} {Y : Option Addr} {cy : Nat} {gm : Gram}
end
end Go.Proofs.Ytegcjkhebecgbaa

namespace Go.Sh
open Go
section
variable {P : Program} {w : World} {k : Value → World → Prop} {B e sz n c m : Nat} {X : Option Addr} {cells : List Value}
end
section
variable {F : Nat → Prop} {w : World} {rs : List RuleL} {cells : List Value}
theorem RuleCells.take (h : RuleCells F w rs cells) : ∀ m, RuleCells F w (rs.take m) (cells.take (m * 2)) := by
  induction h with
  | nil => intro m; rw [List.take_nil, List.take_nil]; exact .nil
  | @cons r rs Y c cells h1 h2 _ ih =>
    intro m
    cases m with
    | zero => exact .nil
    | succ m =>
      rw [show (m + 1) * 2 = m * 2 + 1 + 1 from by omega]
      exact .cons h1 h2 (ih m)
theorem RuleCells.set {r : RuleL} {Y : Option Addr} {d : Nat} (h : RuleCells F w rs cells) (hd : r.2.length ≤ d) (hY : IntsF F w Y r.2) : ∀ j, j < rs.length → RuleCells F w (rs.set j r) (cells.take (j * 2) ++ [.int .i64 r.1, .slice Y r.2.length d] ++ cells.drop (j * 2 + 2)) := by
  induction h with
  | nil => intro j hj; simp at hj
  | @cons q rs Z c cells h1 h2 h3 ih =>
    intro j hj
    cases j with
    | zero => exact .cons hd hY h3
    | succ j =>
      have := ih j (by simpa using hj)
      rw [show (j + 1) * 2 = j * 2 + 1 + 1 from by omega]
      exact .cons h1 h2 this
end
end Go.Sh
namespace Go.Proofs.Ytegcjkhebecgbaa
open Go Go.Sh Go.RowKit
section
variable {w0 w : World} {L : List Thing} {k : Value → World → Prop}
end
end Go.Proofs.Ytegcjkhebecgbaa

namespace Go.Sh.X
open Go Go.Proofs.YtegcjkhebecgbaaW.PrintLast

inductive Steps where
  | nil
  | step (i : Nat) (kd : Kd) (r : Steps)
  | fork (i : Nat) (a : Steps) (j : Nat) (b : Steps)
  | fork3 (i : Nat) (a : Steps) (j : Nat) (b : Steps) (m : Nat) (c : Steps)
structure Plan where
  gen : Bool
  ds : List Nat
  steps : Steps

def stepsOK (ops : Array Oper) (ds : List Nat) : Steps → Nat → Array Bool → Bool → Bool
  | .nil, n, l, _ => (n == 0) && (Region.ready .any ops l == [])
  | .step _ _ _, 0, _, _ => false
  | .step i .any r, n + 1, l, s => zre_ ops i && anyB .any ops l (l.setIfInBounds i true) i && stepsOK ops ds r n (l.setIfInBounds i true) s
  | .step i .held r, n + 1, l, s => s && zre_ ops i && takeB .any ops ds l (l.setIfInBounds i true) i && stepsOK ops ds r n (l.setIfInBounds i true) s
  | .step i .one r, n + 1, l, s => s && !ds.contains i && (Region.ready .any ops l == [i]) && stepsOK ops ds r n (l.setIfInBounds i true) s
  | .step i .last r, n + 1, l, s => !zre_ ops i && ds.contains i && (Region.ready .any ops l == [i]) && stepsOK ops ds r n (l.setIfInBounds i true) false
  | .fork _ _ _ _, 0, _, _ => false
  | .fork i a j b, n + 1, l, s => s && !ds.contains i && !ds.contains j && (Region.ready .any ops l == [i, j]) && stepsOK ops ds a n (l.setIfInBounds i true) s && stepsOK ops ds b n (l.setIfInBounds j true) s
  | .fork3 _ _ _ _ _ _, 0, _, _ => false
  | .fork3 i a j b m c, n + 1, l, s => s && !ds.contains i && !ds.contains j && !ds.contains m && (Region.ready .any ops l == [i, j, m]) && stepsOK ops ds a n (l.setIfInBounds i true) s && stepsOK ops ds b n (l.setIfInBounds j true) s && stepsOK ops ds c n (l.setIfInBounds m true) s
def planOK (ops : Array Oper) (p : Plan) : Bool := stepsOK ops p.ds p.steps ops.size (Array.replicate ops.size false) true

def stepsK (P : Program) (ops : List Oper) (S : WS) : Steps → F → (F → World → Prop) → World → Prop
  | .nil, f, k, w => k f w
  | .step i kd r, f, k, w =>
    match ops[i]? with
    | none => False
    | some o =>
      match kd with
      | .any => zae_ P WS.any ops f o (fun v w' => stepsK P ops S r (f.put o.dst v) k w') w
      | .held => zae_ P S ops f o (fun v w' => stepsK P ops S r (f.put o.dst v) k w') w
      | .one => zae_ P S ops f o (fun v w' => S.S w' ∧ stepsK P ops S r (f.put o.dst v) k w') w
      | .last => zae_ P S ops f o (fun v w' => stepsK P ops S r (f.put o.dst v) k w') w
  | .fork i a j b, f, k, w =>
    match ops[i]?, ops[j]? with
    | some o, some u => zae_ P S ops f o (fun v w' => S.S w' ∧ stepsK P ops S a (f.put o.dst v) k w') w ∧ zae_ P S ops f u (fun v w' => S.S w' ∧ stepsK P ops S b (f.put u.dst v) k w') w
    | _, _ => False
  | .fork3 i a j b m c, f, k, w =>
    match ops[i]?, ops[j]?, ops[m]? with
    | some o, some u, some x => zae_ P S ops f o (fun v w' => S.S w' ∧ stepsK P ops S a (f.put o.dst v) k w') w ∧ zae_ P S ops f u (fun v w' => S.S w' ∧ stepsK P ops S b (f.put u.dst v) k w') w ∧ zae_ P S ops f x (fun v w' => S.S w' ∧ stepsK P ops S c (f.put x.dst v) k w') w
    | _, _, _ => False
def drawK (P : Program) (ops : List Oper) (p : Plan) (f : F) (k : F → World → Prop) (w : World) : Prop :=
  bif p.gen then ∃ S : World → Prop, ∃ h : S w, stepsK P ops ⟨S, w, h⟩ p.steps f k w
  else stepsK P ops (WS.at w) p.steps f k w

theorem stepsK_sound {P : Program} {ops : Array Oper} {n : Nat} {W : List Nat} {k : F → World → Prop} {Q : Exit → Act → World → Prop} {f0 : F} {S : WS} {ds : List Nat}
    (hQ : ∀ f a w, Fits n f a → Agree W f0 f → k f w → Q .normal a w) (hP : ∀ c a w, ¬ Q (.panic c) a w) (hW : ∀ d ∈ W, d < n) (hD : ∀ d ∈ dsts ops.toList, d ∈ W) :
    ∀ (steps : Steps) (m : Nat) (l : Array Bool) (s : Bool) (f : F) (a : Act) (w : World), stepsOK ops ds steps m l s = true → (s = true → S.S w) → Fits n f a → Agree W f0 f →
      stepsK P ops.toList S steps f k w → wpAnyLast P .any ops Q S.S ds m l a w := by
  have hdst : ∀ {i : Nat} {o : Oper}, ops[i]? = some o → ∀ d, o.dst = some d → d ∈ W := fun {i o} ho d e => hD d (List.mem_filterMap.2 ⟨o, by
    rw [← Array.getElem?_toList] at ho
    exact List.mem_of_getElem? ho, e⟩)
  have hone : ∀ {i m : Nat} {o : Oper} {r : Steps} {l : Array Bool} {s : Bool} {f : F} {a : Act} {w : World}, ops[i]? = some o → s = true → (s = true → S.S w) → Fits n f a → Agree W f0 f → stepsOK ops ds r m (l.setIfInBounds i true) s = true →
      zae_ P S ops.toList f o (fun v w' => S.S w' ∧ stepsK P ops.toList S r (f.put o.dst v) k w') w →
      (∀ (l : Array Bool) (s : Bool) (f : F) (a : Act) (w : World), stepsOK ops ds r m l s = true → (s = true → S.S w) → Fits n f a → Agree W f0 f → stepsK P ops.toList S r f k w → wpAnyLast P .any ops Q S.S ds m l a w) →
      wpOp P ops Q i (fun a' w' => (i ∉ ds → S.S w → S.S w') ∧ wpAnyLast P .any ops Q S.S ds m (l.setIfInBounds i true) a' w') a w := by
    intro i m o r l s f a w ho hs1 hs hf ha hok h ih
    unfold wpOp
    simp only [ho]
    have go : ∀ v w', S.S w' → stepsK P ops.toList S r (f.put o.dst v) k w' → wpAnyLast P .any ops Q S.S ds m (l.setIfInBounds i true) (a.put o.dst v) w' :=
      fun v w' h2 h3 => ih _ s _ _ _ hok (fun _ => h2) (hf.put _ (fun d e => hW d (hdst ho d e)) v) (ha.put _ (hdst ho) v) h3
    rcases zyc_ hf h with ⟨hw, h'⟩ | ⟨hw, h'⟩
    · rw [if_pos hw]
      exact .inl (zvi_ (fun _ => hs hs1) hf.ev h' fun v w' hk => ⟨fun _ _ => hk.1, go v w' hk.1 hk.2⟩)
    · rw [if_neg (by simp [hw])]
      exact ⟨fun _ _ => h'.1, go undef w h'.1 h'.2⟩
  intro steps
  induction steps with
  | nil =>
    intro m l s f a w hok _ hf ha h
    simp only [stepsOK, Bool.and_eq_true, beq_iff_eq] at hok
    obtain ⟨rfl, hok⟩ := hok
    exact ⟨hok, hQ f a w hf ha h⟩
  | fork i x j y ihx ihy =>
    intro m l s f a w hok hs hf ha h
    cases m with
    | zero => simp [stepsOK] at hok
    | succ m =>
    simp only [stepsOK, Bool.and_eq_true] at hok
    obtain ⟨⟨⟨⟨⟨h0, h1⟩, h2⟩, h3⟩, h4⟩, h5⟩ := hok
    have h3' : Region.ready .any ops l = [i, j] := by simpa using h3
    unfold stepsK at h
    split at h
    · rename_i o u ho hu
      rw [Array.getElem?_toList] at ho hu
      refine wpAnyLast_all h3' (by simp) fun e he => ?_
      have : e = i ∨ e = j := by simpa using he
      rcases this with rfl | rfl
      · exact hone ho h0 hs hf ha h4 h.1 fun l s f a w => ihx m l s f a w
      · exact hone hu h0 hs hf ha h5 h.2 fun l s f a w => ihy m l s f a w
    · exact h.elim
  | fork3 i x j y t z ihx ihy ihz =>
    intro m l s f a w hok hs hf ha h
    cases m with
    | zero => simp [stepsOK] at hok
    | succ m =>
    simp only [stepsOK, Bool.and_eq_true] at hok
    obtain ⟨⟨⟨⟨⟨⟨⟨h0, h1⟩, h2⟩, h2'⟩, h3⟩, h4⟩, h5⟩, h6⟩ := hok
    have h3' : Region.ready .any ops l = [i, j, t] := by simpa using h3
    unfold stepsK at h
    split at h
    · rename_i o u v ho hu hv
      rw [Array.getElem?_toList] at ho hu hv
      refine wpAnyLast_all h3' (by simp) fun e he => ?_
      have : e = i ∨ e = j ∨ e = t := by simpa using he
      rcases this with rfl | rfl | rfl
      · exact hone ho h0 hs hf ha h4 h.1 fun l s f a w => ihx m l s f a w
      · exact hone hu h0 hs hf ha h5 h.2.1 fun l s f a w => ihy m l s f a w
      · exact hone hv h0 hs hf ha h6 h.2.2 fun l s f a w => ihz m l s f a w
    · exact h.elim
  | step i kd r ih =>
    intro m l s f a w hok hs hf ha h
    cases m with
    | zero => simp [stepsOK] at hok
    | succ m =>
    unfold stepsK at h
    split at h
    · exact h.elim
    · rename_i o ho
      rw [Array.getElem?_toList] at ho
      have hod : ∀ d, o.dst = some d → d ∈ W := hdst ho
      have hq : zre_ ops i = true → zjg_ o.op = true := fun h => by simpa [zre_, ho] using h
      have go : ∀ v w' s', stepsOK ops ds r m (l.setIfInBounds i true) s' = true → (s' = true → S.S w') → stepsK P ops.toList S r (f.put o.dst v) k w' → wpAnyLast P .any ops Q S.S ds m (l.setIfInBounds i true) (a.put o.dst v) w' :=
        fun v w' s' h1 h2 h3 => ih _ _ s' _ _ _ h1 h2 (hf.put _ (fun d e => hW d (hod d e)) v) (ha.put _ hod v) h3
      cases kd with
      | any =>
        simp only [stepsOK, Bool.and_eq_true] at hok
        obtain ⟨⟨h1, h2⟩, h3⟩ := hok
        simp only at h
        have hy : ∃ v, Yields P ops o v a ∧ stepsK P ops.toList S r (f.put o.dst v) k w := by
          rcases zyc_ hf h with ⟨hw, h'⟩ | ⟨hw, h'⟩
          · obtain ⟨v, hv, hk⟩ := zgh_ (hq h1) h'
            exact ⟨v, .inl ⟨hw, fun w' => by rw [hf.ev]; exact hv w' trivial⟩, hk⟩
          · exact ⟨undef, .inr ⟨hw, rfl⟩, h'⟩
        obtain ⟨v, hy, hk⟩ := hy
        exact pure_ _ ho rfl h2 (fun c a w hq => absurd hq (hP c _ w)) hy rfl (go v w s h3 hs hk)
      | held =>
        simp only [stepsOK, Bool.and_eq_true] at hok
        obtain ⟨⟨⟨h0, h1⟩, h2⟩, h3⟩ := hok
        simp only at h
        have hy : ∃ v, YieldsIf P ops S.S o v a ∧ stepsK P ops.toList S r (f.put o.dst v) k w := by
          rcases zyc_ hf h with ⟨hw, h'⟩ | ⟨hw, h'⟩
          · obtain ⟨v, hv, hk⟩ := zgh_ (hq h1) h'
            exact ⟨v, .inl ⟨hw, fun w' hw' => by rw [hf.ev]; exact hv w' hw'⟩, hk⟩
          · exact ⟨undef, .inr ⟨hw, rfl⟩, h'⟩
        obtain ⟨v, hy, hk⟩ := hy
        exact take_ _ ho rfl h2 (fun c a w hq => absurd hq (hP c _ w)) hy (hs h0) rfl (go v w s h3 hs hk)
      | one =>
        simp only [stepsOK, Bool.and_eq_true] at hok
        obtain ⟨⟨⟨h0, h1⟩, h2⟩, h3⟩ := hok
        simp only at h
        have h2' : Region.ready .any ops l = [i] := by simpa using h2
        refine wpAnyLast_all h2' (by simp) fun j hj => ?_
        have hji : j = i := by simpa using hj
        subst hji
        unfold wpOp
        simp only [ho]
        rcases zyc_ hf h with ⟨hw, h'⟩ | ⟨hw, h'⟩
        · rw [if_pos hw]
          exact .inl (zvi_ (fun _ => hs h0) hf.ev h' fun v w' hk => ⟨fun _ _ => hk.1, go v w' s h3 (fun _ => hk.1) hk.2⟩)
        · rw [if_neg (by simp [hw])]
          exact ⟨fun _ _ => h'.1, go undef w s h3 (fun _ => h'.1) h'.2⟩
      | last =>
        simp only [stepsOK, Bool.and_eq_true] at hok
        obtain ⟨⟨⟨h0, h1⟩, h2⟩, h3⟩ := hok
        simp only at h
        have hnq : zjg_ o.op = true → S.S w := fun e => by simp [zre_, ho, e] at h0
        have h2' : Region.ready .any ops l = [i] := by simpa using h2
        have hid : i ∈ ds := by simpa using h1
        refine wpAnyLast_all h2' (by simp) fun j hj => ?_
        have hji : j = i := by simpa using hj
        subst hji
        unfold wpOp
        simp only [ho]
        rcases zyc_ hf h with ⟨hw, h'⟩ | ⟨hw, h'⟩
        · rw [if_pos hw]
          refine .inl (zvi_ hnq hf.ev h' fun v w' hk => ⟨fun hn => absurd hid hn, go v w' false h3 (fun h => by cases h) hk⟩)
        · rw [if_neg (by simp [hw])]
          exact ⟨fun hn => absurd hid hn, go undef w false h3 (fun h => by cases h) h'⟩

theorem plan_sound {P : Program} {ops : Array Oper} {n : Nat} {W : List Nat} {k : F → World → Prop} {Q : Exit → Act → World → Prop} {id : Nat} {p : Plan} {f : F} {a : Act} {w : World} (hm : P.follows .mixedOrders = true)
    (hQ : ∀ f' a w, Fits n f' a → Agree W f f' → k f' w → Q .normal a w) (hP : ∀ c a w, ¬ Q (.panic c) a w) (hW : ∀ d ∈ W, d < n) (hD : ∀ d ∈ dsts ops.toList, d ∈ W)
    (hok : planOK ops p = true) (hf : Fits n f a) (h : drawK P ops.toList p f k w.drew) : (Code.region id ops true).wp P Q a w := by
  unfold planOK at hok
  unfold drawK at h
  cases hg : p.gen <;> rw [hg] at h
  · refine wp_region_last (S := (WS.at w.drew).S) (ds := p.ds) hm ?_
    exact stepsK_sound (S := WS.at w.drew) hQ hP hW hD p.steps _ _ true f a _ hok (fun _ => rfl) hf (Agree.refl _ _) h
  · obtain ⟨S, hS, h⟩ := h
    refine wp_region_last (S := S) (ds := p.ds) hm ?_
    exact stepsK_sound (S := ⟨S, w.drew, hS⟩) hQ hP hW hD p.steps _ _ true f a _ hok (fun _ => hS) hf (Agree.refl _ _) h

def Plans := Nat → Plan

def wpF (P : Program) (pl : Plans) : Code → (Exit → F → World → Prop) → F → World → Prop
  | .skip, Q, f, w => Q .normal f w
  | .region _ ops false, Q, f, w => opsK P ops.toList ops.toList f (fun f w => Q .normal f w) w
  | .region id ops true, Q, f, w => drawK P ops.toList (pl id) f (fun f w => Q .normal f w) w.drew
  | .seq a b, Q, f, w => wpF P pl a (seqQ (wpF P pl b Q) Q) f w
  | .cond c a b, Q, f, w => zi_ (f.ev c) (wpF P pl a Q f w) (wpF P pl b Q f w)
  | .block id b, Q, f, w => wpF P pl b (zt_ id Q) f w
  | .loop b, Q, f, w => zfb_ (wr b) (wpF P pl b) Q f w
  | .exit id, Q, f, w => Q (.exit id) f w
  | .ret, Q, f, w => Q .ret f w
  | _, _, _, _ => False

def plansOK (pl : Plans) : Code → Bool
  | .region id ops true => planOK ops (pl id)
  | .seq a b => plansOK pl a && plansOK pl b
  | .cond _ a b => plansOK pl a && plansOK pl b
  | .block _ b => plansOK pl b
  | .loop b => plansOK pl b
  | _ => true

theorem wpF_sound {P : Program} {pl : Plans} (hm : P.follows .mixedOrders = true) {n : Nat} : ∀ (c : Code), (∀ d ∈ wr c, d < n) → plansOK pl c = true → ∀ (Q : Exit → F → World → Prop), NoPanic Q → ∀ (f : F) (w : World) (a : Act),
    wpF P pl c Q f w → Fits n f a → c.wp P (fun e a' w' => ∃ f', Fits n f' a' ∧ Q e f' w' ∧ Agree (wr c) f f') a w := by
  intro c
  induction c with
  | skip => intro _ _ Q _ f w a h hf; exact wp_skip ⟨f, hf, h, Agree.refl _ _⟩
  | exit id => intro _ _ Q _ f w a h hf; exact wp_exit ⟨f, hf, h, Agree.refl _ _⟩
  | ret => intro _ _ Q _ f w a h hf; exact wp_ret ⟨f, hf, h, Agree.refl _ _⟩
  | region id ops draw =>
    intro hW hok Q hQ f w a h hf
    cases draw with
    | false =>
      refine wp_region ?_
      have := zfr_ (W := wr (.region id ops false)) (f0 := f) (Q := fun e a' w' => ∃ f', Fits n f' a' ∧ Q e f' w' ∧ Agree (wr (.region id ops false)) f f') (k := fun f w => Q .normal f w)
        (fun f' a w h1 h2 h3 => ⟨f', h1, h3, h2⟩) hW ops.toList [] f a w rfl (fun d hd => hd) hf (Agree.refl _ _) h
      simpa [List.range_eq_range'] using this
    | true =>
      exact plan_sound (W := wr (.region id ops true)) (Q := fun e a' w' => ∃ f', Fits n f' a' ∧ Q e f' w' ∧ Agree (wr (.region id ops true)) f f') hm
        (fun f' a w h1 h2 h3 => ⟨f', h1, h3, h2⟩) (fun c a w ⟨f', _, h, _⟩ => hQ _ _ _ h) hW (fun d hd => hd) hok hf h
  | seq x y ihx ihy =>
    intro hW hok Q hQ f w a h hf
    simp only [plansOK, Bool.and_eq_true] at hok
    have hx := ihx (fun d hd => hW d (List.mem_append_left _ hd)) hok.1 (seqQ (wpF P pl y Q) Q) (fun c f w h => hQ c f w h) f w a h hf
    refine wp_seq (wp_mono hx fun e a' w' ⟨f', hf', hq, hag⟩ => ?_)
    cases e with
    | normal =>
      exact wp_mono (ihy (fun d hd => hW d (List.mem_append_right _ hd)) hok.2 Q hQ f' w' a' hq hf') fun e a'' w'' ⟨f'', h1, h2, h3⟩ =>
        ⟨f'', h1, h2, (hag.sub (fun s hs => List.mem_append_left _ hs)).trans (h3.sub fun s hs => List.mem_append_right _ hs)⟩
    | _ => exact ⟨f', hf', hq, hag.sub fun s hs => List.mem_append_left _ hs⟩
  | cond c x y ihx ihy =>
    intro hW hok Q hQ f w a h hf
    simp only [plansOK, Bool.and_eq_true] at hok
    simp only [wpF, zi_] at h
    split at h
    · rename_i b hb
      have hc : a.eval c = .bool b := by rw [hf.ev]; exact hb
      refine wp_cond hc ?_
      cases b
      · exact wp_mono (ihy (fun d hd => hW d (List.mem_append_right _ hd)) hok.2 Q hQ f w a h hf) fun e a' w' ⟨f', h1, h2, h3⟩ => ⟨f', h1, h2, h3.sub fun s hs => List.mem_append_right _ hs⟩
      · exact wp_mono (ihx (fun d hd => hW d (List.mem_append_left _ hd)) hok.1 Q hQ f w a h hf) fun e a' w' ⟨f', h1, h2, h3⟩ => ⟨f', h1, h2, h3.sub fun s hs => List.mem_append_left _ hs⟩
    · exact h.elim
  | block id b ih =>
    intro hW hok Q hQ f w a h hf
    refine wp_block (wp_mono (ih hW hok (zt_ id Q) (fun c f w h => hQ c f w h) f w a h hf) fun e a' w' ⟨f', h1, h2, h3⟩ => ?_)
    cases e with
    | exit i =>
      show if i = id then _ else _
      simp only [zt_] at h2
      by_cases hi : i = id
      · subst hi
        rw [if_pos rfl]
        rw [show Nat.beq i i = true from Nat.beq_refl i] at h2
        exact ⟨f', h1, h2, h3⟩
      · rw [if_neg hi]
        have hb : Nat.beq i id = false := by
          cases h' : Nat.beq i id
          · rfl
          · exact absurd (Nat.eq_of_beq_eq_true h') hi
        rw [hb] at h2
        exact ⟨f', h1, h2, h3⟩
    | _ => exact ⟨f', h1, h2, h3⟩
  | loop b ih =>
    intro hW hok Q hQ f w a h hf
    obtain ⟨I, μ, h0, hr⟩ := h
    have hex : ∃ μ' : Act → World → Nat, ∀ f' a' w', Fits n f' a' → μ' a' w' = μ f' w' := ⟨fun a' w' => μ (fun t => a'.tmps.getD t undef) w', fun f' a' w' hf' => by
      have : (fun t => a'.tmps.getD t undef) = f' := funext hf'.eq
      show μ (fun t => a'.tmps.getD t undef) w' = μ f' w'
      rw [this]⟩
    obtain ⟨μ', hμ⟩ := hex
    refine wp_loop (fun a' w' => ∃ f', Fits n f' a' ∧ Agree (wr b) f f' ∧ I f' w') μ' ⟨f, hf, Agree.refl _ _, h0⟩ ?_
    rintro a1 w1 ⟨f1, hf1, hag1, hI1⟩
    refine wp_mono (ih hW hok (seqQ (fun f' w' => I f' w' ∧ μ f' w' < μ f1 w1) Q) (fun c f w h => hQ c f w h) f1 w1 a1 (hr f1 w1 hag1 hI1) hf1) fun e a' w' ⟨f', h1, h2, h3⟩ => ?_
    cases e with
    | normal => exact ⟨⟨f', h1, hag1.trans h3, h2.1⟩, by rw [hμ f' a' w' h1, hμ f1 a1 w1 hf1]; exact h2.2⟩
    | _ => exact ⟨f', h1, h2, hag1.trans h3⟩
  | _ => intro _ _ Q _ f w a h hf; exact h.elim

theorem call_of_wpF {P : Program} {pl : Plans} {g : FuncId} {fn : Func} {c : Code} {args : List Value} {w : World} {k : Value → World → Prop} (hm : P.follows .mixedOrders = true)
    (hg : P.funcs[g]? = some fn) (hb : fn.body = some c) (hn : (fn.name == "runtime.NumGoroutine") = false) (hl : args.length ≤ fn.ntmps) (hw : (wr c).all (fun d => Nat.blt d fn.ntmps) = true) (hp : plansOK pl c = true)
    (h : wpF P pl c (zr_ P fn.results.toList k) (zm_ args) w) : CallK P g args k w := by
  refine ⟨⟨fn, hg, by simp [hb], hn⟩, calls_of_wp hg hb ?_⟩
  have hfit : Fits fn.ntmps (zm_ args) { tmps := args.toArray ++ Array.replicate (fn.ntmps - args.toArray.size) undef, defers := [] } := by
    refine ⟨by simp; omega, rfl, fun t => ?_⟩
    simp only [zm_, Array.getD_eq_getD_getElem?, List.getD_eq_getElem?_getD]
    rw [Array.getElem?_append]
    split
    · simp
    · rename_i hlt
      simp only [List.size_toArray] at hlt
      rw [List.getElem?_eq_none (by omega), Array.getElem?_replicate]
      split <;> rfl
  refine wp_mono (wpF_sound hm c (fun d hd => by simpa using List.all_eq_true.1 hw d hd) hp _ (fun _ _ _ h => h) _ w _ h hfit) fun e a' w' ⟨f', h1, h2, _⟩ => ?_
  have key : resK P fn.results.toList f' [] (oneOf k) w' → bodyPost P fn (retK k) .ret a' w' := fun hr => by
    obtain ⟨vs, hv, hk⟩ := resK_run _ _ hr
    refine ⟨h1.defers, if h : vs.length = 1 then vs[0] else .tuple vs.toArray, ?_, ?_⟩
    · unfold results
      rw [Array.mapM_eq_mapM_toList]
      simp only [h1.eq, Sem.run_bind, Sem.run_map]
      erw [hv]
      simp
    · simp only [List.nil_append] at hk
      show k _ w'
      match vs, hk with
      | [], hk => exact hk
      | [v], hk => exact hk
      | _ :: _ :: _, hk => exact hk
  cases e with
  | normal => exact key h2
  | ret => exact key h2
  | _ => exact h2.elim

end Go.Sh.X

namespace Go.Proofs.Ytegcjkhebecgbaa
open Go Go.Sh

end Go.Proofs.Ytegcjkhebecgbaa

namespace Go.Sh
open Go
end Go.Sh
namespace Go.Proofs.Ytegcjkhebecgbaa
open Go Go.Sh Go.RowKit
section
variable {w0 w : World} {k : Value → World → Prop}
end
end Go.Proofs.Ytegcjkhebecgbaa

namespace Go.Sh
open Go
end Go.Sh
namespace Go.Proofs.Ytegcjkhebecgbaa
open Go Go.Sh Go.RowKit
section
variable {w : World} {k : Value → World → Prop}
end
section
variable {w : World} {k : Value → World → Prop} {Y : Option Addr} {cy : Nat} {gm : Gram}
end
end Go.Proofs.Ytegcjkhebecgbaa

namespace Go.Sh
open Go
end Go.Sh
namespace Go.Proofs.Ytegcjkhebecgbaa
open Go Go.Sh Go.RowKit
section
variable {w : World} {Y : Option Addr} {cy : Nat} {gm : Gram} {k : Value → World → Prop}
end
structure Dr (gm : Gram) : Prop where
  nons : 0 ≤ gm.nons ∧ gm.nons ≤ 1000
  toks : 0 ≤ gm.toks ∧ gm.toks ≤ 1000
theorem Dr.of {m : Nat} {gm : Gram} (h : Drawn m gm) : Dr gm := ⟨h.nons, h.toks⟩
theorem Dr.useful {gm : Gram} (h : Dr gm) : Dr (usefulV gm).1 := by
  unfold usefulV
  split
  · exact ⟨h.nons, h.toks⟩
  · exact ⟨by simp, by simp⟩
section
variable {w0 w : World} {E : List Thing} {bc N cap : Nat} {C : Option Addr} {bs : List Int} {k : Value → World → Prop}
end
section
variable {w : World} {C : Option Addr} {cap : Nat} {bs : List Int} {k : Value → World → Prop}
end
open Go Go.Sh

def S40 (v0 v1 : Value) (k : Value → World → Prop) (w : World) : Prop :=
 Do Try.prog (sBox 26 v0) (fun t1 w2 =>
 Do Try.prog (sBox 26 v1) (fun t3 w4 =>
 Do Try.prog (zvb_ 26) (fun t5 w6 =>
 Rd Try.prog (WS.at w6) (zc_ 26 t1) fun t7 =>
 Rd Try.prog (WS.at w6) (zc_ 26 t3) fun t8 =>
 CallK Try.prog 170 [t7, t8] (fun t9 w10 =>
 Rd Try.prog (WS.at w10) (sUn .not t9) fun t11 =>
 zi_ t11
  (Rd Try.prog (WS.at w10) (zeb_ 26 []) fun t12 =>
  Do Try.prog (zx_ 26 t5 t12) (fun _ w13 =>
  Rd Try.prog (WS.at w13) (zac_ 26 t5) fun t14 => k (.tuple #[t14, (.bool false)]) w13) w10)
  (Rd Try.prog (WS.at w10) (zb_ 26 t1 0) fun t15 =>
  Rd Try.prog (WS.at w10) (zc_ 3 t15) fun t16 =>
  Rd Try.prog (WS.at w10) (sBin .add 3 true (.int .i64 1) t16) fun t17 =>
  Rd Try.prog (WS.at w10) (zb_ 26 t3 0) fun t18 =>
  Rd Try.prog (WS.at w10) (zc_ 3 t18) fun t19 =>
  Rd Try.prog (WS.at w10) (sBin .add 3 false t17 t19) fun t20 =>
  Rd Try.prog (WS.at w10) (zb_ 26 t1 1) fun t21 =>
  Rd Try.prog (WS.at w10) (zc_ 3 t21) fun t22 =>
  Rd Try.prog (WS.at w10) (zb_ 26 t1 0) fun t23 =>
  Rd Try.prog (WS.at w10) (zc_ 3 t23) fun t24 =>
  Rd Try.prog (WS.at w10) (sBin .add 3 true (.int .i64 1) t24) fun t25 =>
  Do Try.prog (zh_ 27 2 [(0, (.int .i64 1)), (1, t25)]) (fun t26 w27 =>
  Rd Try.prog (WS.at w27) (zeb_ 33 [(1, t26)]) fun t28 =>
  Do Try.prog (zh_ 24 1 [(0, t28)]) (fun t29 w30 =>
  Rd Try.prog (WS.at w30) (zc_ 26 t1) fun t31 =>
  Rd Try.prog (WS.at w30) (zc_ 26 t3) fun t32 =>
  Do Try.prog (zh_ 218 2 [(0, t31), (1, t32)]) (fun t33 w34 =>
  CallK Try.prog 171 [t20, t22, t29, t33] (fun t35 w36 =>
  Rd Try.prog (WS.at w36) (zk_ t35 0) fun t37 =>
  Rd Try.prog (WS.at w36) (zk_ t35 1) fun t38 =>
  Do Try.prog (zx_ 26 t5 t37) (fun _ w39 =>
  Rd Try.prog (WS.at w39) (zac_ 26 t5) fun t40 => k (.tuple #[t40, t38]) w39) w36) w34) w30) w27) w10)) w6) w4) w2) w
end Go.Proofs.Ytegcjkhebecgbaa

namespace Go.Sh

end Go.Sh
namespace Go.Proofs.Ytegcjkhebecgbaa
open Go Go.Sh Go.RowKit

end Go.Proofs.Ytegcjkhebecgbaa

namespace Go.Sh
open Go
theorem inL_yi {gm : Gram} {ws : List Int} (hg : zy_ gm = true) (hw : ws.length ≤ 10) : inL gm.rules ws = true ↔ Yi gm.rules (.inl 0) ws := by
  unfold inL
  rw [span_iff (good_lefts hg) (zpi_ hg) hw (Nat.le_refl _), der_yi (Nat.zero_le _) (Nat.le_refl _), cut_all]
theorem inLV_of {gm : Gram} {ws : List Int} (hg : zy_ gm = true) (hw : zpc_ gm.toks ws = true) : inLV gm ws = (inL gm.rules ws, true) := by
  unfold inLV wordG
  rw [hg, hw, if_pos (by rfl)]
end Go.Sh
namespace Go.Proofs.Ytegcjkhebecgbaa
open Go Go.Sh Go.RowKit
section
variable {w : World} {L : List (World → Prop)} {k : Value → World → Prop} {Y X : Option Addr} {cy cx n : Nat} {gm : Gram} {ws : List Int}
end
end Go.Proofs.Ytegcjkhebecgbaa

namespace Go.Sh
open Go
end Go.Sh

namespace Go.Proofs.Ytegcjkhebecgbaa
open Go Go.Sh Go.RowKit
section
variable {w : World} {C : Option Addr} {cap : Nat} {bs : List Int} {k : Value → World → Prop}
end
end Go.Proofs.Ytegcjkhebecgbaa

namespace Go.Sh
open Go
end Go.Sh
namespace Go.Proofs.Ytegcjkhebecgbaa
open Go Go.Sh Go.RowKit
theorem putH {k : Value → World → Prop} {w0 w : World} {L : List Thing} (H : Apt w0 w L) (i : Nat) {j c : Nat} {X : Option Addr} {xs : List Int} {x : Int} (hi : L[i]? = some (ows X c xs)) (hj : j < xs.length)
    (h : ∀ w', Apt w0 w' (L.set i (ows X c (xs.set j x))) → k undef w') : Do Try.prog (zx_ 3 (.pointer (some ((ad X).add j))) (.int .i64 x)) k w := by
  refine zme_ sz3 rfl rfl (H.row i hi) (by omega) fun w' g hs hr => ?_
  have hr' : Row w' w0.heap.size 3 1 X (xs.set j x).length c (ints (xs.set j x)) := by
    rw [List.length_set, show ints (xs.set j x) = (ints xs).set j (.int .i64 x) from by simp [ints]]
    exact hr
  exact h w' (H.set hi (gx_of g fun q hq => hq) (fun q hq => .inl hq) (fun q hq => (Row.ge hr' hq).2) (zdk_ hr'))
end Go.Proofs.Ytegcjkhebecgbaa

namespace Go.Sh
open Go
theorem yi_range {rs : List RuleL} {T : Int} (hr : ∀ r ∈ rs, ∀ x ∈ r.2, -T ≤ x) {c : Nat ⊕ List Int} {u : List Int} (h : Yi rs c u) : match c with | .inl _ => ∀ t ∈ u, 0 ≤ t ∧ t < T | .inr xs => (∀ x ∈ xs, -T ≤ x) → ∀ t ∈ u, 0 ≤ t ∧ t < T := by
  induction h with
  | @rule A r u h1 h2 _ ih => exact ih (hr r h1)
  | nil => exact fun _ t ht => by simp at ht
  | @tok x xs u hx _ ih =>
    intro hT t ht
    rcases List.mem_cons.1 ht with rfl | ht
    · have := hT x (List.mem_cons_self ..)
      omega
    · exact ih (fun y hy => hT y (List.mem_cons_of_mem _ hy)) t ht
  | @non x xs u v hx _ _ ih1 ih2 =>
    intro hT t ht
    rcases List.mem_append.1 ht with ht | ht
    · exact ih1 t ht
    · exact ih2 (fun y hy => hT y (List.mem_cons_of_mem _ hy)) t ht
theorem good_yi {gm : Gram} (hg : zy_ gm = true) {A : Nat} {u : List Int} (h : Yi gm.rules (.inl A) u) : ∀ t ∈ u, 0 ≤ t ∧ t < gm.toks :=
  yi_range (fun r hr x hx => ((ziv_ hg r hr).2.2 x hx).1) h
structure FinF (gm : Gram) (n : Int) (one : Bool) : Prop where
  n0 : 0 ≤ n
  pro : decide ((0 : Int) ∈ cloV gm true) = one
  none_ : one = false → (shortV gm 3).1 = [] ∧ finiteV gm = (true, true)
  low : one = true → n ≤ 3 → 0 < (shortV gm 3).1.length ∧ ((rgt (shortV gm 3).1 0).length : Int) = n
  high : one = true → ¬ n ≤ 3 → (shortV gm 3).1 = []
  null : decide ((0 : Int) ∈ cloV gm false) = (one && decide (n = 0))
end Go.Sh

namespace Go.Proofs.Ytegcjkhebecgbaa
open Go Go.Sh Go.RowKit
theorem putH' {k : Value → World → Prop} {w0 w : World} {L : List Thing} (H : Apt w0 w L) (i : Nat) {j c : Nat} {X : Option Addr} {xs : List Int} {x : Int} (hi : L[i]? = some (ows X c xs)) (hj : j < xs.length)
    (h : ∀ w', Apt w0 w' (L.set i (ows X c (xs.set j x))) → k undef w') : Do Try.prog (zx_ 3 (.pointer (some ((ad X).add j))) (.int .i64 x)) k w := putH H i hi hj h
section
variable {w : World} {k : Value → World → Prop} {Y : Option Addr} {cy : Nat} {gm : Gram}
end
section
variable {w : World} {k : Value → World → Prop} {Y : Option Addr} {cy : Nat} {gm : Gram}
end
open Go Go.Sh

end Go.Proofs.Ytegcjkhebecgbaa

namespace Go.Sh
open Go
structure SndE (rs : List RuleL) (A M : Tb2) : Prop where
  all : ∀ a b, A a b = true → EdR rs a b
  more : ∀ a b, M a b = true → EgR rs a b
end Go.Sh
namespace Go.Proofs.Ytegcjkhebecgbaa
open Go Go.Sh Go.RowKit
section
variable {w : World} {k : Value → World → Prop} {Y : Option Addr} {cy : Nat} {gm : Gram}
end
end Go.Proofs.Ytegcjkhebecgbaa

namespace Go.Sh
open Go Go.Proofs.YtegcjkhebecgbaaW.PrintLast
section
variable {ops : Array Oper} {ds : List Nat} {i n : Nat} {r : Steps} {l l' : Array Bool} {s : Bool}
end
end Go.Sh

namespace Go.Proofs.Ytegcjkhebecgbaa
open Go Go.Sh

end Go.Proofs.Ytegcjkhebecgbaa

namespace Go.Sh
open Go
section
variable {A : Tb2} {n a b : Nat}
end
end Go.Sh
namespace Go.Proofs.Ytegcjkhebecgbaa
open Go Go.Sh Go.RowKit
section
variable {w : World} {k : Value → World → Prop} {Y : Option Addr} {cy : Nat} {gm : Gram}
end
section
variable {w : World} {k : Value → World → Prop} {Y : Option Addr} {cy : Nat} {gm : Gram}
end
section
variable {w : World} {C : Option Addr} {cap : Nat} {bs : List Int} {k : Value → World → Prop}
end
section
variable {w : World} {k : Value → World → Prop} {Y : Option Addr} {cy : Nat} {gm : Gram} {n : Int} {f b : Bool}
end
attribute [local irreducible] Rd Do CallK za_ zi_ Join zfb_ zk_ zc_ zw_ sBin sUn ze_ zx_ zvb_ zd_ zb_
open Go Go.Sh

end Go.Proofs.Ytegcjkhebecgbaa

namespace Go.Sh
open Go Go.Proofs.Ytegcjkhebecgbaa
theorem toldL_mem {S : Nat → List Int → Prop} {many : Nat} : ∀ n x, x ∈ toldL S many n → ∃ s, s ≤ n ∧ S s x := by
  intro n
  induction n with
  | zero => intro x hx; simp [toldL] at hx
  | succ n ih =>
    intro x hx
    rw [toldL] at hx
    split at hx
    · rcases List.mem_append.1 hx with h | h
      · obtain ⟨s, h1, h2⟩ := ih x h
        exact ⟨s, by omega, h2⟩
      · unfold firstsOf at h
        split at h
        · rename_i hh
          exact ⟨n + 1, Nat.le_refl _, (Classical.choose_spec hh).mem x h⟩
        · simp at h
    · obtain ⟨s, h1, h2⟩ := ih x hx
      exact ⟨s, by omega, h2⟩
theorem treesV_mem {gm : Gram} {ws x : List Int} {most many : Int} (h : x ∈ (treesV gm ws most many).1) : zy_ gm = true ∧ zpc_ gm.toks ws = true ∧ x.length ≤ 12 ∧ Tr gm.rules (.inl 0) x ws := by
  unfold treesV at h
  split at h
  · rename_i hc
    simp only [Bool.and_eq_true, inB, decide_eq_true_eq] at hc
    obtain ⟨s, hs, hd⟩ := toldL_mem _ _ h
    have hl := ztm_ hd
    exact ⟨hc.1.1.1, hc.1.1.2, by omega, tr_der.2 ⟨s, hd⟩⟩
  · simp at h
theorem zrj_ {gm : Gram} {tree ws : List Int} (hg : zy_ gm = true) (hl : tree.length ≤ 60) (h : Tr gm.rules (.inl 0) tree ws) : ∃ p, Whole gm tree p ws := by
  obtain ⟨p, hp, hf⟩ := tr_read (tree := tree) h [] [] [] tree.length (by simp) (Nat.le_refl _)
  exact ⟨p, hg, hl, by simpa using hp, by simpa using hf⟩
end Go.Sh
namespace Go.Proofs.Ytegcjkhebecgbaa
open Go Go.Sh Go.RowKit
section
variable {w : World} {k : Value → World → Prop} {Y X Z : Option Addr} {cy cx cz n : Nat} {gm : Gram} {ws t cs p : List Int} {b is : Bool} {most many m : Int} {V : Value} {ls : List (List Int)}
theorem implPO_n (e : zrc_ gm t = (p, b)) (hG : kG Y cy gm.rules w) (hX : Ints w X t) (hk : ∀ w' U d, Gr w w' → kI U p d w' → k (.tuple #[.slice U p.length d, .bool b]) w') :
    CallK Try.prog 110 [grv gm Y cy, .slice X t.length cx] k w := by
  refine zjw_ (gvK hG) hX rfl fun w' U d g o => ?_
  rw [e] at o ⊢
  exact hk w' U d g ⟨o.ints, (Row.cap o).1⟩
theorem implIP_n (e : isPumpV gm ws cs m = (is, b)) (hG : kG Y cy gm.rules w) (hX : kI X ws cx w) (hC : Ints w Z cs) (hn : n = cs.length) (hk : ∀ w', Gr w w' → k (.tuple #[.bool is, .bool b]) w') :
    CallK Try.prog 119 [grv gm Y cy, .slice X ws.length cx, .slice Z n cz, .int .i64 m] k w := by
  refine ziw_ (gvK hG) hX.1 rfl hX.2 hC hn fun w' g => ?_
  rw [e]
  exact hk w' g
end
section
variable {w : World} {C : Option Addr} {cap : Nat} {bs : List Int} {k : Value → World → Prop}
end
attribute [local irreducible] Rd Do CallK za_ zi_ Join zfb_ zk_ zc_ zw_ sBin sUn ze_ zx_ zvb_ zd_ zb_ zrb_
open Go Go.Sh

def pl51 : Plans := fun _ => ⟨false, [], .nil⟩
def S51 (v0 v1 v2 : Value) (k : Value → World → Prop) (w : World) : Prop :=
 Do Try.prog (sBox 26 v0) (fun t1 w2 =>
 Rd Try.prog (WS.at w2) (zc_ 26 t1) fun t3 =>
 CallK Try.prog 148 [t3] (fun t4 w5 =>
 Rd Try.prog (WS.at w5) (sUn .not t4) fun t6 =>
 za_ t6 false (fun k w' => Rd Try.prog (WS.at w5) (zb_ 26 t1 1) fun v => k v w') (fun t7 w8 =>
 za_ t6 false (fun k w' => Rd Try.prog (WS.at w8) (zc_ 3 t7) fun v => k v w') (fun t9 w10 =>
 za_ t6 false (fun k w' => k v1 w') (fun t11 w12 =>
 za_ t6 false (fun k w' => CallK Try.prog 150 [t9, t11] k w') (fun t13 w14 =>
 za_ t6 false (fun k w' => Rd Try.prog (WS.at w14) (sUn .not t13) fun v => k v w') (fun t15 w16 =>
 Rd Try.prog (WS.at w16) (zw_ t6 (.bool true) t15) fun t17 =>
 za_ t17 false (fun k w' => k v2 w') (fun t18 w19 =>
 za_ t17 false (fun k w' => Rd Try.prog (WS.at w19) (ze_ .len #[27] 3 [false] [t18]) fun v => k v w') (fun t20 w21 =>
 za_ t17 false (fun k w' => Rd Try.prog (WS.at w21) (sBin .gtr 3 true t20 (.int .i64 60)) fun v => k v w') (fun t22 w23 =>
 Rd Try.prog (WS.at w23) (zw_ t17 (.bool true) t22) fun t24 =>
 zi_ t24
  (k (.tuple #[(.bool false), (.bool false)]) w23)
  (Rd Try.prog (WS.at w23) (zc_ 26 t1) fun t25 =>
  CallK Try.prog 179 [t25, (.int .i64 0), v2] (fun t26 w27 =>
  Rd Try.prog (WS.at w27) (zk_ t26 0) fun t28 =>
  Rd Try.prog (WS.at w27) (zk_ t26 1) fun t29 =>
  Rd Try.prog (WS.at w27) (zk_ t26 2) fun t30 =>
  za_ t30 true (fun k w' => k t28 w') (fun t31 w32 =>
  za_ t30 true (fun k w' => Rd Try.prog (WS.at w32) (zu_ t31) fun v => k v w') (fun t33 w34 =>
  za_ t30 true (fun k w' => Rd Try.prog (WS.at w34) (zb_ 156 t33 3) fun v => k v w') (fun t35 w36 =>
  za_ t30 true (fun k w' => Rd Try.prog (WS.at w36) (zc_ 3 t35) fun v => k v w') (fun t37 w38 =>
  za_ t30 true (fun k w' => k v2 w') (fun t39 w40 =>
  za_ t30 true (fun k w' => Rd Try.prog (WS.at w40) (ze_ .len #[27] 3 [false] [t39]) fun v => k v w') (fun t41 w42 =>
  za_ t30 true (fun k w' => Rd Try.prog (WS.at w42) (sBin .eql 3 false t37 t41) fun v => k v w') (fun t43 w44 =>
  Rd Try.prog (WS.at w44) (zw_ t30 t43 (.bool false)) fun t45 =>
  za_ t45 true (fun k w' => k t29 w') (fun t46 w47 =>
  za_ t45 true (fun k w' => k v1 w') (fun t48 w49 =>
  za_ t45 true (fun k w' => CallK Try.prog 180 [t46, t48] k w') (fun t50 w51 =>
  Rd Try.prog (WS.at w51) (zw_ t45 t50 (.bool false)) fun t52 =>
  k (.tuple #[t52, (.bool true)]) w51) w49) w47) w44) w42) w40) w38) w36) w34) w32) w27) w23)) w21) w19) w16) w14) w12) w10) w8) w5) w2) w
theorem body51 : Try.f51.body = some (zg_ Try.f51) := by kernel_rfl
theorem same51 (v0 v1 v2 : Value) (k : Value → World → Prop) (w : World) : wpF Try.prog pl51 (zg_ Try.f51) (zr_ Try.prog Try.f51.results.toList k) (zm_ [v0, v1, v2]) w = S51 v0 v1 v2 k w := by kernel_rfl
theorem enter51 {v0 v1 v2 : Value} {k : Value → World → Prop} {w : World} (h : S51 v0 v1 v2 k w) : CallK Try.prog 51 [v0, v1, v2] k w :=
  call_of_wpF (pl := pl51) zab_ Try.func51 body51 (by kernel_rfl) (of_decide_eq_true (by kernel_rfl)) (by kernel_rfl) (by kernel_rfl) (Eq.mpr (same51 v0 v1 v2 k w) h)

def pl114 : Plans := fun _ => ⟨false, [], .nil⟩
def S114 (v0 v1 v2 : Value) (k : Value → World → Prop) (w : World) : Prop :=
 Do Try.prog (sBox 26 v0) (fun t1 w2 =>
 Rd Try.prog (WS.at w2) (zc_ 26 t1) fun t3 =>
 CallK Try.prog 148 [t3] (fun t4 w5 =>
 Rd Try.prog (WS.at w5) (sUn .not t4) fun t6 =>
 za_ t6 false (fun k w' => k v1 w') (fun t7 w8 =>
 za_ t6 false (fun k w' => Rd Try.prog (WS.at w8) (zb_ 26 t1 0) fun v => k v w') (fun t9 w10 =>
 za_ t6 false (fun k w' => Rd Try.prog (WS.at w10) (zc_ 3 t9) fun v => k v w') (fun t11 w12 =>
 za_ t6 false (fun k w' => Rd Try.prog (WS.at w12) (sBin .sub 3 true t11 (.int .i64 1)) fun v => k v w') (fun t13 w14 =>
 za_ t6 false (fun k w' => CallK Try.prog 149 [t7, (.int .i64 0), t13] k w') (fun t15 w16 =>
 za_ t6 false (fun k w' => Rd Try.prog (WS.at w16) (sUn .not t15) fun v => k v w') (fun t17 w18 =>
 Rd Try.prog (WS.at w18) (zw_ t6 (.bool true) t17) fun t19 =>
 za_ t19 false (fun k w' => k v2 w') (fun t20 w21 =>
 za_ t19 false (fun k w' => Rd Try.prog (WS.at w21) (ze_ .len #[27] 3 [false] [t20]) fun v => k v w') (fun t22 w23 =>
 za_ t19 false (fun k w' => Rd Try.prog (WS.at w23) (sBin .gtr 3 true t22 (.int .i64 60)) fun v => k v w') (fun t24 w25 =>
 Rd Try.prog (WS.at w25) (zw_ t19 (.bool true) t24) fun t26 =>
 zi_ t26
  (k (.tuple #[(.slice none 0 0), (.bool false)]) w25)
  (Rd Try.prog (WS.at w25) (zc_ 26 t1) fun t27 =>
  CallK Try.prog 179 [t27, v1, v2] (fun t28 w29 =>
  Rd Try.prog (WS.at w29) (zk_ t28 0) fun t30 =>
  Rd Try.prog (WS.at w29) (zk_ t28 1) fun t31 =>
  Rd Try.prog (WS.at w29) (zk_ t28 2) fun t32 =>
  Rd Try.prog (WS.at w29) (sUn .not t32) fun t33 =>
  za_ t33 false (fun k w' => k t30 w') (fun t34 w35 =>
  za_ t33 false (fun k w' => Rd Try.prog (WS.at w35) (zu_ t34) fun v => k v w') (fun t36 w37 =>
  za_ t33 false (fun k w' => Rd Try.prog (WS.at w37) (zb_ 156 t36 3) fun v => k v w') (fun t38 w39 =>
  za_ t33 false (fun k w' => Rd Try.prog (WS.at w39) (zc_ 3 t38) fun v => k v w') (fun t40 w41 =>
  za_ t33 false (fun k w' => k v2 w') (fun t42 w43 =>
  za_ t33 false (fun k w' => Rd Try.prog (WS.at w43) (ze_ .len #[27] 3 [false] [t42]) fun v => k v w') (fun t44 w45 =>
  za_ t33 false (fun k w' => Rd Try.prog (WS.at w45) (sBin .neq 3 false t40 t44) fun v => k v w') (fun t46 w47 =>
  Rd Try.prog (WS.at w47) (zw_ t33 (.bool true) t46) fun t48 =>
  za_ t48 false (fun k w' => k t31 w') (fun t49 w50 =>
  za_ t48 false (fun k w' => Rd Try.prog (WS.at w50) (ze_ .len #[27] 3 [false] [t49]) fun v => k v w') (fun t51 w52 =>
  za_ t48 false (fun k w' => Rd Try.prog (WS.at w52) (sBin .gtr 3 true t51 (.int .i64 10)) fun v => k v w') (fun t53 w54 =>
  Rd Try.prog (WS.at w54) (zw_ t48 (.bool true) t53) fun t55 =>
  zi_ t55
   (k (.tuple #[(.slice none 0 0), (.bool false)]) w54)
   (k (.tuple #[t31, (.bool true)]) w54)) w52) w50) w47) w45) w43) w41) w39) w37) w35) w29) w25)) w23) w21) w18) w16) w14) w12) w10) w8) w5) w2) w
theorem body114 : Try.f114.body = some (zg_ Try.f114) := by kernel_rfl
theorem same114 (v0 v1 v2 : Value) (k : Value → World → Prop) (w : World) : wpF Try.prog pl114 (zg_ Try.f114) (zr_ Try.prog Try.f114.results.toList k) (zm_ [v0, v1, v2]) w = S114 v0 v1 v2 k w := by kernel_rfl
theorem enter114 {v0 v1 v2 : Value} {k : Value → World → Prop} {w : World} (h : S114 v0 v1 v2 k w) : CallK Try.prog 114 [v0, v1, v2] k w :=
  call_of_wpF (pl := pl114) zab_ Try.func114 body114 (by kernel_rfl) (of_decide_eq_true (by kernel_rfl)) (by kernel_rfl) (by kernel_rfl) (Eq.mpr (same114 v0 v1 v2 k w) h)

def pl232 : Plans := fun _ => ⟨false, [], .nil⟩
def S232 (v0 v1 v2 : Value) (k : Value → World → Prop) (w : World) : Prop :=
 Do Try.prog (sBox 26 v0) (fun t1 w2 =>
 Rd Try.prog (WS.at w2) (zc_ 26 t1) fun t3 =>
 CallK Try.prog 294 [t3, v1, v2] (fun t4 w5 =>
 Rd Try.prog (WS.at w5) (sUn .not t4) fun t6 =>
 za_ t6 false (fun k w' => Rd Try.prog (WS.at w5) (zc_ 26 t1) fun v => k v w') (fun t7 w8 =>
 za_ t6 false (fun k w' => k v1 w') (fun t9 w10 =>
 za_ t6 false (fun k w' => k v2 w') (fun t11 w12 =>
 za_ t6 false (fun k w' => CallK Try.prog 295 [t7, t9, t11] k w') (fun t13 w14 =>
 za_ t6 false (fun k w' => Rd Try.prog (WS.at w14) (sUn .not t13) fun v => k v w') (fun t15 w16 =>
 Rd Try.prog (WS.at w16) (zw_ t6 (.bool true) t15) fun t17 =>
 zi_ t17
  (k (.tuple #[(.slice none 0 0), (.bool false)]) w16)
  (Rd Try.prog (WS.at w16) (zc_ 26 t1) fun t18 =>
  CallK Try.prog 297 [t18, v2, (.int .i64 0)] (fun t19 w20 =>
  Rd Try.prog (WS.at w20) (zk_ t19 0) fun t21 =>
  Rd Try.prog (WS.at w20) (zk_ t19 1) fun t22 =>
  Rd Try.prog (WS.at w20) (ze_ .len #[27] 3 [false] [t21]) fun t23 =>
  Rd Try.prog (WS.at w20) (sBin .gtr 3 true t23 (.int .i64 10)) fun t24 =>
  zi_ t24
   (k (.tuple #[(.slice none 0 0), (.bool false)]) w20)
   (k (.tuple #[t21, (.bool true)]) w20)) w16)) w14) w12) w10) w8) w5) w2) w
theorem body232 : Try.f232.body = some (zg_ Try.f232) := by kernel_rfl
theorem same232 (v0 v1 v2 : Value) (k : Value → World → Prop) (w : World) : wpF Try.prog pl232 (zg_ Try.f232) (zr_ Try.prog Try.f232.results.toList k) (zm_ [v0, v1, v2]) w = S232 v0 v1 v2 k w := by kernel_rfl
theorem enter232 {v0 v1 v2 : Value} {k : Value → World → Prop} {w : World} (h : S232 v0 v1 v2 k w) : CallK Try.prog 232 [v0, v1, v2] k w :=
  call_of_wpF (pl := pl232) zab_ Try.func232 body232 (by kernel_rfl) (of_decide_eq_true (by kernel_rfl)) (by kernel_rfl) (by kernel_rfl) (Eq.mpr (same232 v0 v1 v2 k w) h)

def pl297 : Plans := fun i => match i with
  | 3 => ⟨false, [], .step 0 .any (.step 1 .held (.step 2 .any (.step 3 .any (.step 4 .any (.step 5 .held (.step 6 .any (.step 7 .any (.step 8 .held (.step 9 .any (.step 10 .any (.nil)))))))))))⟩
  | _ => ⟨false, [], .nil⟩
def S297 (v0 v1 v2 : Value) (k : Value → World → Prop) (w : World) : Prop :=
 Do Try.prog (sBox 26 v0) (fun t1 w2 =>
 Rd Try.prog (WS.at w2) (sBin .add 3 true v2 (.int .i64 1)) fun t3 =>
 Rd Try.prog WS.any (zb_ 26 t1 2) fun t4 =>
 Rd Try.prog (WS.at w2.drew) (zc_ 24 t4) fun t5 =>
 Rd Try.prog WS.any (zd_ 27 v1 v2) fun t6 =>
 Rd Try.prog (WS.at w2.drew) (zc_ 3 t6) fun t7 =>
 Rd Try.prog WS.any (zd_ 24 t5 t7) fun t8 =>
 Rd Try.prog WS.any (zb_ 33 t8 1) fun t9 =>
 Rd Try.prog (WS.at w2.drew) (zc_ 27 t9) fun t10 =>
 Rd Try.prog WS.any (ze_ .len #[27] 3 [false] [t10]) fun t11 =>
 zfb_ [27, 28, 29, 11, 30, 31, 32, 33, 34, 35, 36, 8, 38, 39, 40, 41, 37, 42, 43, 12, 13, 44, 45, 46, 8, 47, 9, 48, 26] (fun Q12 f13 w14 =>
  Rd Try.prog (WS.at w14) (sBin .lss 3 false (f13 26) (f13 25)) fun t15 =>
  zi_ t15
   (Join (fun K16 =>
   Rd Try.prog (WS.at w14) (zd_ 27 (f13 24) (f13 26)) fun t19 =>
   Rd Try.prog (WS.at w14) (zc_ 3 t19) fun t20 =>
   Rd Try.prog (WS.at w14) (sBin .lss 3 true t20 (.int .i64 0)) fun t21 =>
   zi_ t21
    (Rd Try.prog (WS.at w14) (sBin .sub 3 true (.int .i64 (-1)) t20) fun t22 =>
    Do Try.prog (zh_ 27 1 [(0, t22)]) (fun t23 w24 =>
    Do Try.prog (ze_ .append #[27, 27] 27 [false, false] [(f13 8), t23]) (fun t25 w26 =>
    K16 (F.upd (F.upd (F.upd (F.upd (F.upd (F.upd (F.upd (F.upd (F.upd (F.upd (F.upd (F.upd f13 27 t15) 28 t19) 29 t20) 11 t20) 30 t20) 31 t21) 32 (f13 8)) 33 t20) 34 t22) 35 t23) 36 t25) 8 t25) w26) w24) w14)
    (Rd Try.prog (WS.at w14) (zc_ 26 (f13 3)) fun t27 =>
    CallK Try.prog 297 [t27, (f13 1), (f13 9)] (fun t28 w29 =>
    Rd Try.prog (WS.at w29) (zk_ t28 0) fun t30 =>
    Rd Try.prog (WS.at w29) (zk_ t28 1) fun t31 =>
    Do Try.prog (ze_ .append #[27, 27] 27 [false, false] [(f13 8), t30]) (fun t32 w33 =>
    K16 (F.upd (F.upd (F.upd (F.upd (F.upd (F.upd (F.upd (F.upd (F.upd (F.upd (F.upd (F.upd (F.upd (F.upd (F.upd (F.upd (F.upd (F.upd (F.upd (F.upd (F.upd f13 27 t15) 28 t19) 29 t20) 11 t20) 30 t20) 31 t21) 38 t27) 39 (f13 1)) 40 (f13 9)) 41 t28) 37 t28) 42 t30) 43 t31) 12 t30) 13 t31) 44 (f13 8)) 45 t30) 46 t32) 8 t32) 47 t31) 9 t31) w33) w29) w14)) (fun f17 w18 =>
   Rd Try.prog (WS.at w18) (sBin .add 3 true (f17 26) (.int .i64 1)) fun t34 =>
   Q12 .normal (F.upd (F.upd f17 48 t34) 26 t34) w18))
   (Q12 (.exit 0) (F.upd f13 27 t15) w14))
  (zt_ 0 (seqQ (fun f35 w36 =>
 k (.tuple #[(f35 8), (f35 9)]) w36) (zr_ Try.prog [.tmp 6, .tmp 7] k)))
  (F.upd (F.upd (F.upd (F.upd (F.upd (F.upd (F.upd (F.upd (F.upd (F.upd (F.upd (F.upd (F.upd (F.upd (F.upd (F.upd (F.upd (F.upd (zm_ [v0, v1, v2]) 3 t1) 6 (.slice none 0 0)) 7 (.int .i64 0)) 8 (.slice none 0 0)) 14 v2) 15 t3) 9 t3) 16 t4) 17 t5) 18 v1) 19 v2) 20 t6) 21 t7) 22 t8) 23 t9) 24 t10) 25 t11) 26 (.int .i64 0)) w2.drew) w
theorem body297 : Try.f297.body = some (zg_ Try.f297) := by kernel_rfl
theorem same297 (v0 v1 v2 : Value) (k : Value → World → Prop) (w : World) : wpF Try.prog pl297 (zg_ Try.f297) (zr_ Try.prog Try.f297.results.toList k) (zm_ [v0, v1, v2]) w = S297 v0 v1 v2 k w := by kernel_rfl
theorem enter297 {v0 v1 v2 : Value} {k : Value → World → Prop} {w : World} (h : S297 v0 v1 v2 k w) : CallK Try.prog 297 [v0, v1, v2] k w :=
  call_of_wpF (pl := pl297) zab_ Try.func297 body297 (by kernel_rfl) (of_decide_eq_true (by kernel_rfl)) (by kernel_rfl) (by kernel_rfl) (Eq.mpr (same297 v0 v1 v2 k w) h)

end Go.Proofs.Ytegcjkhebecgbaa

namespace Go.Sh
open Go Go.Proofs.Ytegcjkhebecgbaa
def zge_ (gm : Gram) (tree : List Int) : Option (List Int) := if zdc_ gm tree = true then (ztb_ gm.rules tree tree.length 0 0 []).map fun z => z.2 else none
theorem treeU_iff {gm : Gram} {tree u : List Int} : zge_ gm tree = some u ↔ zy_ gm = true ∧ tree.length ≤ 60 ∧ Tr gm.rules (.inl 0) tree u := by
  constructor
  · intro h
    unfold zge_ at h
    split at h
    · rename_i ha
      obtain ⟨p, ws, hW⟩ := asked_whole.1 ha
      rw [hW.read] at h
      obtain rfl : ws = u := by simpa using h
      have D := zkj_ (rs := gm.rules) (tree := tree) _ 0 0 [] p ws (by omega) hW.read
      obtain ⟨u, eu, hu⟩ := D.tr
      rw [List.nil_append] at eu
      subst eu
      rw [hW.fin, cut_all] at hu
      exact ⟨hW.good, hW.le, hu⟩
    · cases h
  · rintro ⟨hg, hl, ht⟩
    obtain ⟨p, hW⟩ := zrj_ hg hl ht
    unfold zge_
    have ha : zdc_ gm tree = true := by
      cases e : zdc_ gm tree with
      | true => rfl
      | false => exact absurd hW (asked_whole.2 e p u)
    rw [if_pos ha, hW.read]
    rfl
def zjc_ (gm : Gram) (tree : List Int) : List Int × Bool := match zge_ gm tree with
  | some u => if u.length ≤ 10 then (u, true) else ([], false)
  | none => ([], false)
def zke_ (gm : Gram) (ws tree : List Int) : Bool × Bool := if (zy_ gm && zpc_ gm.toks ws && decide (tree.length ≤ 60)) = true then (decide (zge_ gm tree = some ws), true) else (false, false)
theorem yieldV_true {gm : Gram} {tree u : List Int} (h : zjc_ gm tree = (u, true)) : zy_ gm = true ∧ tree.length ≤ 60 ∧ Tr gm.rules (.inl 0) tree u ∧ u.length ≤ 10 := by
  unfold zjc_ at h
  split at h
  · rename_i v hv
    split at h
    · obtain rfl : v = u := (Prod.mk.inj h).1
      obtain ⟨a, b, c⟩ := treeU_iff.1 hv
      exact ⟨a, b, c, by assumption⟩
    · cases h
  · cases h
theorem isTreeV_of {gm : Gram} {ws tree : List Int} (hw : zpc_ gm.toks ws = true) (hg : zy_ gm = true) (hl : tree.length ≤ 60) (h : Tr gm.rules (.inl 0) tree ws) : zke_ gm ws tree = (true, true) := by
  unfold zke_
  rw [if_pos (by simp [hg, hw, hl]), treeU_iff.2 ⟨hg, hl, h⟩]
  simp
theorem tr_len {rs : List RuleL} (h4 : ∀ q, q < rs.length → (rul rs q).2.length ≤ 4) {c : Nat ⊕ List Int} {t u : List Int} (h : Tr rs c t u) : match c with | .inl _ => u.length ≤ 4 * t.length | .inr xs => u.length ≤ xs.length + 4 * t.length := by
  induction h with
  | @tree A q r u h1 h2 _ ih =>
    have := h4 q h1
    dsimp only at ih ⊢
    rw [List.length_cons]
    omega
  | nil => simp
  | tok hx _ ih =>
    dsimp only at ih ⊢
    rw [List.length_cons, List.length_cons]
    omega
  | non hx _ _ ih1 ih2 =>
    dsimp only at ih1 ih2 ⊢
    rw [List.length_cons, List.length_append, List.length_append]
    omega
end Go.Sh
namespace Go.Proofs.Ytegcjkhebecgbaa
open Go Go.Sh Go.RowKit
theorem l11Yield_c {gm : Gram} {tree : List Int} {X : Option Addr} {c : Nat} (hg : zy_ gm = true) (ht : tree.length ≤ 1000) : ∀ (n : Nat) {w : World} {Y : Option Addr} {cy A : Nat} {pre t post u : List Int} {k : Value → World → Prop}, t.length ≤ n → tree = pre ++ t ++ post → Tr gm.rules (.inl A) t u → kG Y cy gm.rules w → Ints w X tree →
    (∀ w' U d, Gr w w' → Own 3 w' w.heap.size U d u → k (.tuple #[.slice U u.length d, .int .i64 ((pre.length + t.length : Nat) : Int)]) w') →
    CallK Try.prog 297 [grv gm Y cy, .slice X tree.length c, .int .i64 (pre.length : Int)] k w := by
  have hgr := ziv_ hg
  have h4 : ∀ q, q < gm.rules.length → (rul gm.rules q).2.length ≤ 4 := fun q hq => (zpj_ hg hq).1
  have htk := zie_ hg
  intro n
  induction n with
  | zero =>
    intro w Y cy A pre t post u k hn he hr
    have := tr_pos hr
    omega
  | succ n ih =>
    intro w Y cy A pre t post u k hn he hr hG hx hk
    have hulen := tr_len h4 hr
    dsimp only at hulen
    cases hr with
    | @tree _ q r _ hq hnon hR =>
      rw [List.length_cons] at hn hulen
      have htl : pre.length + (r.length + 1) + post.length = tree.length := by rw [he]; simp; omega
      have hlt : pre.length < tree.length := by omega
      have hget : tree.getD pre.length 0 = (q : Int) := by
        rw [he, List.getD_eq_getElem?_getD, List.append_assoc, List.getElem?_append_right (Nat.le_refl _)]
        simp
      refine enter297 ?_
      unfold S297
      have H := Apt.nil w
      refine boxH H fun b1 w1 H => ?_
      have H : Apt w w1 [bx b1 [.int .i64 gm.nons, .int .i64 gm.toks, .slice Y gm.rules.length cy] 26] := H
      simp only [zq18, zq19, zq20, zq21, zq22, zq23, zq24, zq25, zq26, zq27, zq28, zq4, zq3, zq1, zq2, zq0, zq29, zq30, zq14, zq15, zq16, zq17, zq13, zq10, zq12, zq11, zq7, zq5, zq6, zq9, zq8, zq31, zq32, ite_T, ite_F, zq33, zq34, zq35, Nat.reduceEqDiff, len22, len24, fa26_0, fa26_1, fa26_2, len27, fa33_0, fa33_1, len35, fa114_0, fa114_1, fa114_2, fa124_0, fa124_1, len134, len154, fa156_0, fa156_1, fa156_2, fa156_3, fa156_4, fa156_5, fa156_6, len271, fa274_0, fa274_1, fa274_2]
      rw [zj_ (by omega) (by omega)]
      have H := H.drew
      have hRF := hG.2.gr H.gr
      rw [zuf_ (H.box 0 rfl) rfl]
      refine rdi (zub_ hx.ptr hlt) (rdi (ld3 ((hx.gr H.gr).cell _ hlt)) ?_)
      rw [hget]
      refine rdi (zwe_ hRF.ptr hq) ?_
      obtain ⟨Z, cz, z1, z2, z3, z4⟩ := hG.2.row q hq
      simp only [zq18, zq19, zq20, zq21, zq22, zq23, zq24, zq25, zq26, zq27, zq28, zq4, zq3, zq1, zq2, zq0, zq29, zq30, zq14, zq15, zq16, zq17, zq13, zq10, zq12, zq11, zq7, zq5, zq6, zq9, zq8, zq31, zq32, ite_T, ite_F, zq33, zq34, zq35, Nat.reduceEqDiff, len22, len24, fa26_0, fa26_1, fa26_2, len27, fa33_0, fa33_1, len35, fa114_0, fa114_1, fa114_2, fa124_0, fa124_1, len134, len154, fa156_0, fa156_1, fa156_2, fa156_3, fa156_4, fa156_5, fa156_6, len271, fa274_0, fa274_1, fa274_2]
      refine rdi (ld27 (by rw [zhc_]; exact H.gr.cell z2)) ?_
      simp only [zq18, zq19, zq20, zq21, zq22, zq23, zq24, zq25, zq26, zq27, zq28, zq4, zq3, zq1, zq2, zq0, zq29, zq30, zq14, zq15, zq16, zq17, zq13, zq10, zq12, zq11, zq7, zq5, zq6, zq9, zq8, zq31, zq32, ite_T, ite_F, zq33, zq34, zq35, Nat.reduceEqDiff, len22, len24, fa26_0, fa26_1, fa26_2, len27, fa33_0, fa33_1, len35, fa114_0, fa114_1, fa114_2, fa124_0, fa124_1, len134, len154, fa156_0, fa156_1, fa156_2, fa156_3, fa156_4, fa156_5, fa156_6, len271, fa274_0, fa274_1, fa274_2]
      have hZ := z4.is
      have hrb := hgr _ (by rw [zpf_ hq]; exact List.getElem_mem hq : rul gm.rules q ∈ gm.rules)
      have hR4 := hrb.2.1
      generalize (rul gm.rules q).2 = R at *
      have H := H.addNil 3 1
      simp only [List.cons_append, List.nil_append] at H
      have H : Apt w w1.drew [bx b1 [.int .i64 gm.nons, .int .i64 gm.toks, .slice Y gm.rules.length cy] 26, ows none 0 []] := H
      refine zhb_ R.length 0 (fun i f w' => i ≤ R.length ∧ f 26 = .int .i64 (i : Int) ∧ ∃ (pr rest out ru : List Int) (U : Option Addr) (d : Nat), tree = pr ++ rest ++ post ∧ Tr gm.rules (.inr (R.drop i)) rest ru ∧ out ++ ru = u ∧ pr.length + rest.length = pre.length + (r.length + 1) ∧ pre.length < pr.length ∧ f 9 = .int .i64 (pr.length : Int) ∧ f 8 = .slice U out.length d ∧
          Apt w w' [bx b1 [.int .i64 gm.nons, .int .i64 gm.toks, .slice Y gm.rules.length cy] 26, ows U d out])
        ⟨Nat.zero_le _, rfl, pre ++ [(q : Int)], r, [], u, none, 0, by rw [he]; simp, hR, by simp, by simp; omega, by simp, by simp; rfl, rfl, H⟩ ?_
      clear H
      rintro i f w2 N hag ⟨hi, f26, pr, rest, out, ru, U, d, he2, hT, hu, hsum, hpr, f9, f8, H⟩ hN
      have f1 : f 1 = .slice X tree.length c := hag 1 (by decide)
      have f3 : f 3 = ptrv b1 := hag 3 (by decide)
      have f24 : f 24 = .slice Z R.length cz := hag 24 (by decide)
      have f25 : f 25 = .int .i64 (R.length : Int) := hag 25 (by decide)
      have hul : out.length + ru.length = u.length := by rw [← hu]; simp
      simp only [f1, f3, f8, f9, f24, f25, f26, zq18, zq19, zq20, zq21, zq22, zq23, zq24, zq25, zq26, zq27, zq28, zq4, zq3, zq1, zq2, zq0, zq29, zq30, zq14, zq15, zq16, zq17, zq13, zq10, zq12, zq11, zq7, zq5, zq6, zq9, zq8, zq31, zq32, ite_T, ite_F, zq33, zq34, zq35, Nat.reduceEqDiff, len22, len24, fa26_0, fa26_1, fa26_2, len27, fa33_0, fa33_1, len35, fa114_0, fa114_1, fa114_2, fa124_0, fa124_1, len134, len154, fa156_0, fa156_1, fa156_2, fa156_3, fa156_4, fa156_5, fa156_6, len271, fa274_0, fa274_1, fa274_2]
      by_cases hlt2 : i < R.length
      case neg =>
        simp only [show ¬ ((i : Int) < (R.length : Int)) from by omega, decide_false, f8, f9, zq18, zq19, zq20, zq21, zq22, zq23, zq24, zq25, zq26, zq27, zq28, zq4, zq3, zq1, zq2, zq0, zq29, zq30, zq14, zq15, zq16, zq17, zq13, zq10, zq12, zq11, zq7, zq5, zq6, zq9, zq8, zq31, zq32, ite_T, ite_F, zq33, zq34, zq35, Nat.reduceEqDiff, len22, len24, fa26_0, fa26_1, fa26_2, len27, fa33_0, fa33_1, len35, fa114_0, fa114_1, fa114_2, fa124_0, fa124_1, len134, len154, fa156_0, fa156_1, fa156_2, fa156_3, fa156_4, fa156_5, fa156_6, len271, fa274_0, fa274_1, fa274_2]
        rw [List.drop_eq_nil_of_le (by omega)] at hT
        cases hT
        rw [List.append_nil] at hu
        subst hu
        have := hk w2 U d H.gr (H.own 1 rfl)
        simp only [List.length_nil, Nat.add_zero] at hsum
        rw [List.length_cons, ← hsum] at this
        exact this
      simp only [show ((i : Int) < (R.length : Int)) from by omega, decide_true, zq18, zq19, zq20, zq21, zq22, zq23, zq24, zq25, zq26, zq27, zq28, zq4, zq3, zq1, zq2, zq0, zq29, zq30, zq14, zq15, zq16, zq17, zq13, zq10, zq12, zq11, zq7, zq5, zq6, zq9, zq8, zq31, zq32, ite_T, ite_F, zq33, zq34, zq35, Nat.reduceEqDiff, len22, len24, fa26_0, fa26_1, fa26_2, len27, fa33_0, fa33_1, len35, fa114_0, fa114_1, fa114_2, fa124_0, fa124_1, len134, len154, fa156_0, fa156_1, fa156_2, fa156_3, fa156_4, fa156_5, fa156_6, len271, fa274_0, fa274_1, fa274_2]
      rw [zyk_ hlt2] at hT
      have hZ2 := hZ.gr H.gr
      have hxr := hrb.2.2 _ (zth_ hlt2)
      have hRl := hZ2.le
      refine zmd_ (fun f w' => f 26 = .int .i64 (i : Int) ∧ ∃ (pr rest out ru : List Int) (U : Option Addr) (d : Nat), tree = pr ++ rest ++ post ∧ Tr gm.rules (.inr (R.drop (i + 1))) rest ru ∧ out ++ ru = u ∧ pr.length + rest.length = pre.length + (r.length + 1) ∧ pre.length < pr.length ∧ f 9 = .int .i64 (pr.length : Int) ∧ f 8 = .slice U out.length d ∧
          Apt w w' [bx b1 [.int .i64 gm.nons, .int .i64 gm.toks, .slice Y gm.rules.length cy] 26, ows U d out]) (fun K hK => ?_) ?_
      case refine_2 =>
        rintro f w' ⟨f26, h⟩
        simp only [f26, zq18, zq19, zq20, zq21, zq22, zq23, zq24, zq25, zq26, zq27, zq28, zq4, zq3, zq1, zq2, zq0, zq29, zq30, zq14, zq15, zq16, zq17, zq13, zq10, zq12, zq11, zq7, zq5, zq6, zq9, zq8, zq31, zq32, ite_T, ite_F, zq33, zq34, zq35, Nat.reduceEqDiff, len22, len24, fa26_0, fa26_1, fa26_2, len27, fa33_0, fa33_1, len35, fa114_0, fa114_1, fa114_2, fa124_0, fa124_1, len134, len154, fa156_0, fa156_1, fa156_2, fa156_3, fa156_4, fa156_5, fa156_6, len271, fa274_0, fa274_1, fa274_2]
        rw [zj_ (by omega) (by omega)]
        exact hN _ _ hlt2 ⟨by omega, rfl, h⟩
      refine rdi (zub_ hZ2.ptr hlt2) (rdi (ld3 (hZ2.cell i hlt2)) ?_)
      generalize R.getD i 0 = x at *
      simp only [zq18, zq19, zq20, zq21, zq22, zq23, zq24, zq25, zq26, zq27, zq28, zq4, zq3, zq1, zq2, zq0, zq29, zq30, zq14, zq15, zq16, zq17, zq13, zq10, zq12, zq11, zq7, zq5, zq6, zq9, zq8, zq31, zq32, ite_T, ite_F, zq33, zq34, zq35, Nat.reduceEqDiff, len22, len24, fa26_0, fa26_1, fa26_2, len27, fa33_0, fa33_1, len35, fa114_0, fa114_1, fa114_2, fa124_0, fa124_1, len134, len154, fa156_0, fa156_1, fa156_2, fa156_3, fa156_4, fa156_5, fa156_6, len271, fa274_0, fa274_1, fa274_2]
      by_cases hx0 : x < 0
      · simp only [hx0, decide_true, f8, zq18, zq19, zq20, zq21, zq22, zq23, zq24, zq25, zq26, zq27, zq28, zq4, zq3, zq1, zq2, zq0, zq29, zq30, zq14, zq15, zq16, zq17, zq13, zq10, zq12, zq11, zq7, zq5, zq6, zq9, zq8, zq31, zq32, ite_T, ite_F, zq33, zq34, zq35, Nat.reduceEqDiff, len22, len24, fa26_0, fa26_1, fa26_2, len27, fa33_0, fa33_1, len35, fa114_0, fa114_1, fa114_2, fa124_0, fa124_1, len134, len154, fa156_0, fa156_1, fa156_2, fa156_3, fa156_4, fa156_5, fa156_6, len271, fa274_0, fa274_1, fa274_2]
        cases hT with
        | non h => exact absurd hx0 h
        | @tok _ _ _ ru' _ hT =>
          rw [List.length_cons] at hul
          rw [zj_ (by omega) (by omega)]
          refine pushH H 1 rfl rfl (by omega) fun t1 U' d' w3 H' => ?_
          simp only [List.set_cons_zero, List.set_cons_succ] at H'
          exact hK _ _ ⟨f26, pr, rest, out ++ [-1 - x], ru', U', d', he2, hT, by rw [← hu]; simp, hsum, hpr, f9, rfl, H'⟩
      · simp only [hx0, decide_false, f1, f3, f9, zq18, zq19, zq20, zq21, zq22, zq23, zq24, zq25, zq26, zq27, zq28, zq4, zq3, zq1, zq2, zq0, zq29, zq30, zq14, zq15, zq16, zq17, zq13, zq10, zq12, zq11, zq7, zq5, zq6, zq9, zq8, zq31, zq32, ite_T, ite_F, zq33, zq34, zq35, Nat.reduceEqDiff, len22, len24, fa26_0, fa26_1, fa26_2, len27, fa33_0, fa33_1, len35, fa114_0, fa114_1, fa114_2, fa124_0, fa124_1, len134, len154, fa156_0, fa156_1, fa156_2, fa156_3, fa156_4, fa156_5, fa156_6, len271, fa274_0, fa274_1, fa274_2]
        cases hT with
        | tok h => exact absurd h hx0
        | @non _ _ ta tb ua ub _ hTa hTb =>
          rw [List.length_append] at hul hsum
          have hpos := tr_pos hTa
          rw [zv_ zdb_ sz26 rfl (H.box 0 rfl)]
          refine ih (pre := pr) (t := ta) (post := tb ++ post) (by omega) (by rw [he2]; simp) hTa ⟨hG.1, hG.2.gr H.gr⟩ (hx.gr H.gr) fun w3 V e g3 hV => ?_
          have H := H.step g3
          simp only [f8, zq18, zq19, zq20, zq21, zq22, zq23, zq24, zq25, zq26, zq27, zq28, zq4, zq3, zq1, zq2, zq0, zq29, zq30, zq14, zq15, zq16, zq17, zq13, zq10, zq12, zq11, zq7, zq5, zq6, zq9, zq8, zq31, zq32, ite_T, ite_F, zq33, zq34, zq35, Nat.reduceEqDiff, len22, len24, fa26_0, fa26_1, fa26_2, len27, fa33_0, fa33_1, len35, fa114_0, fa114_1, fa114_2, fa124_0, fa124_1, len134, len154, fa156_0, fa156_1, fa156_2, fa156_3, fa156_4, fa156_5, fa156_6, len271, fa274_0, fa274_1, fa274_2]
          refine apH H 1 rfl (Own.ints hV) rfl rfl (by omega) fun U' d' w4 H' => ?_
          simp only [List.set_cons_zero, List.set_cons_succ] at H'
          exact hK _ _ ⟨f26, pr ++ ta, tb, out ++ ua, ub, U', d', by rw [he2]; simp, hTb, by rw [← hu]; simp, by simp; omega, by simp; omega, by simp; rfl, rfl, H'⟩
open Go Go.Sh

def pl107 : Plans := fun i => match i with
  | 3 => ⟨true, [5], .step 0 .held (.step 1 .any (.step 2 .any (.step 3 .one (.step 4 .one (.step 5 .last (.step 6 .any (.step 7 .any (.nil))))))))⟩
  | _ => ⟨false, [], .nil⟩
def S107 (v0 : Value) (k : Value → World → Prop) (w : World) : Prop :=
 Do Try.prog (zvb_ 26) (fun t1 w2 =>
 Rd Try.prog (WS.at w2) (zeb_ 114 [(0, v0)]) fun t3 =>
 Do Try.prog (sBox 114 t3) (fun t4 w5 =>
 CallK Try.prog 220 [t4] (fun t6 w7 =>
 Rd Try.prog (WS.at w7) (zk_ t6 0) fun t8 =>
 Rd Try.prog (WS.at w7) (zk_ t6 1) fun t9 =>
 Do Try.prog (zvb_ 26) (fun t10 w11 =>
 Do Try.prog (zx_ 26 t10 t8) (fun _ w12 =>
 ∃ U13 : World → Prop, ∃ h14 : U13 w12.drew,
 Rd Try.prog ⟨U13, w12.drew, h14⟩ (zc_ 26 t10) fun t15 =>
 Do Try.prog (zh_ 27 6 [(0, (.int .i64 0)), (1, (.int .i64 1)), (2, (.int .i64 2)), (3, (.int .i64 3)), (4, (.int .i64 4)), (5, (.int .i64 5))]) (fun t16 w17 =>
 U13 w17 ∧ CallK Try.prog 156 [t4, t16] (fun t18 w19 =>
 U13 w19 ∧ Do Try.prog (zx_ 26 t1 t15) (fun _ w20 =>
 Rd Try.prog (WS.at w20) (zac_ 26 t1) fun t21 => k (.tuple #[t21, t9, t18]) w20) w19) w17) w12.drew) w11) w7) w5) w2) w
theorem body107 : Try.f107.body = some (zg_ Try.f107) := by kernel_rfl
theorem same107 (v0 : Value) (k : Value → World → Prop) (w : World) : wpF Try.prog pl107 (zg_ Try.f107) (zr_ Try.prog Try.f107.results.toList k) (zm_ [v0]) w = S107 v0 k w := by kernel_rfl
theorem enter107 {v0 : Value} {k : Value → World → Prop} {w : World} (h : S107 v0 k w) : CallK Try.prog 107 [v0] k w :=
  call_of_wpF (pl := pl107) zab_ Try.func107 body107 (by kernel_rfl) (of_decide_eq_true (by kernel_rfl)) (by kernel_rfl) (by kernel_rfl) (Eq.mpr (same107 v0 k w) h)

def pl116 : Plans := fun _ => ⟨false, [], .nil⟩
def S116 (v0 : Value) (k : Value → World → Prop) (w : World) : Prop :=
 Rd Try.prog (WS.at w) (zeb_ 114 [(0, v0)]) fun t1 =>
 Do Try.prog (sBox 114 t1) (fun t2 w3 =>
 CallK Try.prog 146 [t2, (.int .i64 9)] (fun t4 w5 =>
 zfb_ [13, 14, 17, 18, 19, 20, 21, 6, 15, 16, 7] (fun Q6 f7 w8 =>
  Rd Try.prog (WS.at w8) (sBin .gtr 3 true (f7 7) (.int .i64 0)) fun t9 =>
  zi_ t9
   (CallK Try.prog 146 [(f7 5), (.int .i64 4)] (fun t10 w11 =>
   Do Try.prog (zh_ 27 1 [(0, t10)]) (fun t12 w13 =>
   Do Try.prog (ze_ .append #[27, 27] 27 [false, false] [(f7 6), t12]) (fun t14 w15 =>
   Rd Try.prog (WS.at w15) (sBin .sub 3 true (f7 7) (.int .i64 1)) fun t16 =>
   Q6 .normal (F.upd (F.upd (F.upd (F.upd (F.upd (F.upd (F.upd (F.upd (F.upd (F.upd (F.upd f7 13 (f7 7)) 14 t9) 17 (f7 6)) 18 (f7 5)) 19 t10) 20 t12) 21 t14) 6 t14) 15 (f7 7)) 16 t16) 7 t16) w15) w13) w11) w8)
   (Q6 (.exit 0) (F.upd (F.upd f7 13 (f7 7)) 14 t9) w8))
  (zt_ 0 (seqQ (fun f17 w18 =>
 Join (fun K19 =>
 CallK Try.prog 176 [(f17 5), (.int .i64 20)] (fun t22 w23 =>
 zi_ t22
  (Do Try.prog (zvc_ 27 (.int .i64 40) (.int .i64 40)) (fun t24 w25 =>
  K19 (F.upd (F.upd (F.upd (F.upd f17 22 (f17 5)) 23 t22) 24 t24) 6 t24) w25) w23)
  (K19 (F.upd (F.upd f17 22 (f17 5)) 23 t22) w23)) w18) (fun f20 w21 =>
 Rd Try.prog (WS.at w21) (ze_ .len #[27] 3 [false] [(f20 6)]) fun t26 =>
 CallK Try.prog 229 [(f20 5), t26] (fun t27 w28 =>
 CallK Try.prog 146 [(f20 5), (.int .i64 6)] (fun t29 w30 =>
 k (.tuple #[(f20 6), t27, t29]) w30) w28) w21)) (zr_ Try.prog [.tmp 2, .tmp 3, .tmp 4] k)))
  (F.upd (F.upd (F.upd (F.upd (F.upd (F.upd (F.upd (F.upd (F.upd (F.upd (F.upd (zm_ [v0]) 2 (.slice none 0 0)) 3 (.slice none 0 0)) 4 (.int .i64 0)) 8 v0) 9 t1) 10 t2) 5 t2) 6 (.slice none 0 0)) 11 t2) 12 t4) 7 t4) w5) w3) w
theorem body116 : Try.f116.body = some (zg_ Try.f116) := by kernel_rfl
theorem same116 (v0 : Value) (k : Value → World → Prop) (w : World) : wpF Try.prog pl116 (zg_ Try.f116) (zr_ Try.prog Try.f116.results.toList k) (zm_ [v0]) w = S116 v0 k w := by kernel_rfl
theorem enter116 {v0 : Value} {k : Value → World → Prop} {w : World} (h : S116 v0 k w) : CallK Try.prog 116 [v0] k w :=
  call_of_wpF (pl := pl116) zab_ Try.func116 body116 (by kernel_rfl) (of_decide_eq_true (by kernel_rfl)) (by kernel_rfl) (by kernel_rfl) (Eq.mpr (same116 v0 k w) h)

def pl118 : Plans := fun i => match i with
  | 8 => ⟨true, [7], .step 0 .held (.step 1 .any (.step 2 .any (.step 3 .any (.step 5 .any (.step 4 .one (.step 6 .one (.step 7 .last (.step 8 .any (.step 9 .any (.step 10 .any (.nil)))))))))))⟩
  | 9 => ⟨true, [8], .step 0 .held (.step 1 .any (.step 2 .any (.step 3 .any (.step 4 .any (.step 6 .any (.step 5 .one (.step 7 .one (.step 8 .last (.step 9 .any (.step 10 .any (.step 11 .any (.nil))))))))))))⟩
  | _ => ⟨false, [], .nil⟩
def S118 (v0 : Value) (k : Value → World → Prop) (w : World) : Prop :=
 Do Try.prog (zvb_ 26) (fun t1 w2 =>
 Rd Try.prog (WS.at w2) (zeb_ 114 [(0, v0)]) fun t3 =>
 Do Try.prog (sBox 114 t3) (fun t4 w5 =>
 CallK Try.prog 220 [t4] (fun t6 w7 =>
 Rd Try.prog (WS.at w7) (zk_ t6 0) fun t8 =>
 Rd Try.prog (WS.at w7) (zk_ t6 1) fun t9 =>
 Do Try.prog (zvb_ 26) (fun t10 w11 =>
 Do Try.prog (zx_ 26 t10 t8) (fun _ w12 =>
 Rd Try.prog (WS.at w12) (zc_ 26 t10) fun t13 =>
 CallK Try.prog 232 [t13, (.int .i64 0), t9] (fun t14 w15 =>
 Rd Try.prog (WS.at w15) (zk_ t14 0) fun t16 =>
 Rd Try.prog (WS.at w15) (zk_ t14 1) fun t17 =>
 Join (fun K18 =>
 Rd Try.prog (WS.at w15) (sUn .not t17) fun t21 =>
 zi_ t21
  (Rd Try.prog (WS.at w15) (zc_ 26 t10) fun t22 =>
  CallK Try.prog 147 [t4, t22] (fun t23 w24 =>
  K18 (F.upd (F.upd (F.upd (F.upd (F.upd (F.upd (F.upd (F.upd (F.upd (F.upd (F.upd (F.upd (F.upd (F.upd (F.upd (F.upd (F.upd (F.upd (F.upd (F.upd (F.upd (F.upd (F.upd (F.upd (F.upd (F.upd (F.upd (F.upd (F.upd (zm_ [v0]) 2 t1) 3 (.slice none 0 0)) 4 (.slice none 0 0)) 5 (.int .i64 0)) 13 v0) 14 t3) 15 t4) 6 t4) 17 t4) 18 t6) 16 t6) 19 t8) 20 t9) 7 t10) 8 t9) 22 t13) 23 t9) 24 t14) 21 t14) 25 t16) 26 t17) 9 t16) 10 t17) 27 t17) 28 t21) 29 t4) 30 t22) 31 t23) 9 t23) w24) w15)
  (K18 (F.upd (F.upd (F.upd (F.upd (F.upd (F.upd (F.upd (F.upd (F.upd (F.upd (F.upd (F.upd (F.upd (F.upd (F.upd (F.upd (F.upd (F.upd (F.upd (F.upd (F.upd (F.upd (F.upd (F.upd (F.upd (zm_ [v0]) 2 t1) 3 (.slice none 0 0)) 4 (.slice none 0 0)) 5 (.int .i64 0)) 13 v0) 14 t3) 15 t4) 6 t4) 17 t4) 18 t6) 16 t6) 19 t8) 20 t9) 7 t10) 8 t9) 22 t13) 23 t9) 24 t14) 21 t14) 25 t16) 26 t17) 9 t16) 10 t17) 27 t17) 28 t21) w15)) (fun f19 w20 =>
 Rd Try.prog (WS.at w20) (zc_ 26 (f19 7)) fun t25 =>
 CallK Try.prog 111 [t25, (f19 8)] (fun t26 w27 =>
 Rd Try.prog (WS.at w27) (zk_ t26 0) fun t28 =>
 Rd Try.prog (WS.at w27) (zk_ t26 1) fun t29 =>
 za_ (f19 10) true (fun k w' => k t29 w') (fun t30 w31 =>
 Rd Try.prog (WS.at w31) (zw_ (f19 10) t30 (.bool false)) fun t32 =>
 za_ t32 true (fun k w' => k (f19 6) w') (fun t33 w34 =>
 za_ t32 true (fun k w' => CallK Try.prog 176 [t33, (.int .i64 4)] k w') (fun t35 w36 =>
 za_ t32 true (fun k w' => Rd Try.prog (WS.at w36) (sUn .not t35) fun v => k v w') (fun t37 w38 =>
 Rd Try.prog (WS.at w38) (zw_ t32 t37 (.bool false)) fun t39 =>
 zi_ t39
  (∃ U40 : World → Prop, ∃ h41 : U40 w38.drew,
  Rd Try.prog ⟨U40, w38.drew, h41⟩ (zc_ 26 (f19 7)) fun t42 =>
  Rd Try.prog WS.any (zrb_ 27 t28 (some (.int .i64 2)) none none) fun t43 =>
  CallK Try.prog 158 [t43] (fun t44 w45 =>
  U40 w45 ∧ CallK Try.prog 146 [(f19 6), (.int .i64 4)] (fun t46 w47 =>
  U40 w47 ∧ Do Try.prog (zx_ 26 (f19 2) t42) (fun _ w48 =>
  Rd Try.prog (WS.at w48) (zac_ 26 (f19 2)) fun t49 => k (.tuple #[t49, (f19 9), t44, t46]) w48) w47) w45) w38.drew)
  (∃ U50 : World → Prop, ∃ h51 : U50 w38.drew,
  Rd Try.prog ⟨U50, w38.drew, h51⟩ (zc_ 26 (f19 7)) fun t52 =>
  Rd Try.prog WS.any (ze_ .len #[27] 3 [false] [(f19 9)]) fun t53 =>
  CallK Try.prog 229 [(f19 6), t53] (fun t54 w55 =>
  U50 w55 ∧ CallK Try.prog 146 [(f19 6), (.int .i64 6)] (fun t56 w57 =>
  U50 w57 ∧ Do Try.prog (zx_ 26 (f19 2) t52) (fun _ w58 =>
  Rd Try.prog (WS.at w58) (zac_ 26 (f19 2)) fun t59 => k (.tuple #[t59, (f19 9), t54, t56]) w58) w57) w55) w38.drew)) w36) w34) w31) w27) w20)) w12) w11) w7) w5) w2) w
theorem body118 : Try.f118.body = some (zg_ Try.f118) := by kernel_rfl
theorem same118 (v0 : Value) (k : Value → World → Prop) (w : World) : wpF Try.prog pl118 (zg_ Try.f118) (zr_ Try.prog Try.f118.results.toList k) (zm_ [v0]) w = S118 v0 k w := by kernel_rfl
theorem enter118 {v0 : Value} {k : Value → World → Prop} {w : World} (h : S118 v0 k w) : CallK Try.prog 118 [v0] k w :=
  call_of_wpF (pl := pl118) zab_ Try.func118 body118 (by kernel_rfl) (of_decide_eq_true (by kernel_rfl)) (by kernel_rfl) (by kernel_rfl) (Eq.mpr (same118 v0 k w) h)

def pl220 : Plans := fun _ => ⟨false, [], .nil⟩
def S220 (v0 : Value) (k : Value → World → Prop) (w : World) : Prop :=
 Do Try.prog (zvb_ 26) (fun t1 w2 =>
 CallK Try.prog 145 [v0] (fun t3 w4 =>
 Do Try.prog (zvb_ 26) (fun t5 w6 =>
 Do Try.prog (zx_ 26 t5 t3) (fun _ w7 =>
 Rd Try.prog (WS.at w7) (zc_ 26 t5) fun t8 =>
 CallK Try.prog 147 [v0, t8] (fun t9 w10 =>
 Rd Try.prog (WS.at w10) (zc_ 26 t5) fun t11 =>
 CallK Try.prog 293 [t11, t9, (.int .i64 8), (.int .i64 20)] (fun t12 w13 =>
 Rd Try.prog (WS.at w13) (zk_ t12 0) fun t14 =>
 Rd Try.prog (WS.at w13) (zk_ t12 1) fun t15 =>
 Join (fun K16 =>
 Rd Try.prog (WS.at w13) (ze_ .len #[35] 3 [false] [t14]) fun t19 =>
 Rd Try.prog (WS.at w13) (sBin .gtr 3 true t19 (.int .i64 0)) fun t20 =>
 zi_ t20
  (Rd Try.prog (WS.at w13) (ze_ .len #[35] 3 [false] [t14]) fun t21 =>
  CallK Try.prog 146 [v0, t21] (fun t22 w23 =>
  Rd Try.prog (WS.at w23) (zd_ 35 t14 t22) fun t24 =>
  Rd Try.prog (WS.at w23) (zc_ 27 t24) fun t25 =>
  CallK Try.prog 158 [t25] (fun t26 w27 =>
  K16 (F.upd (F.upd (F.upd (F.upd (F.upd (F.upd (F.upd (F.upd (F.upd (F.upd (F.upd (F.upd (F.upd (F.upd (F.upd (F.upd (F.upd (F.upd (F.upd (F.upd (F.upd (F.upd (F.upd (F.upd (F.upd (F.upd (F.upd (F.upd (F.upd (F.upd (zm_ [v0]) 2 t1) 3 (.slice none 0 0)) 9 v0) 10 t3) 4 t5) 11 v0) 12 t8) 13 t9) 5 t9) 15 t11) 16 t9) 17 t12) 14 t12) 18 t14) 19 t15) 6 t14) 7 t15) 8 (.slice none 0 0)) 20 t14) 21 t19) 22 t20) 23 t14) 24 v0) 25 t14) 26 t21) 27 t22) 28 t24) 29 t25) 30 t26) 8 t26) w27) w23) w13)
  (K16 (F.upd (F.upd (F.upd (F.upd (F.upd (F.upd (F.upd (F.upd (F.upd (F.upd (F.upd (F.upd (F.upd (F.upd (F.upd (F.upd (F.upd (F.upd (F.upd (F.upd (F.upd (zm_ [v0]) 2 t1) 3 (.slice none 0 0)) 9 v0) 10 t3) 4 t5) 11 v0) 12 t8) 13 t9) 5 t9) 15 t11) 16 t9) 17 t12) 14 t12) 18 t14) 19 t15) 6 t14) 7 t15) 8 (.slice none 0 0)) 20 t14) 21 t19) 22 t20) w13)) (fun f17 w18 =>
 Join (fun K28 =>
 CallK Try.prog 146 [(f17 0), (.int .i64 8)] (fun t31 w32 =>
 Rd Try.prog (WS.at w32) (sBin .eql 3 true t31 (.int .i64 0)) fun t33 =>
 zi_ t33
  (CallK Try.prog 146 [(f17 0), (.int .i64 3)] (fun t34 w35 =>
  Do Try.prog (zh_ 27 1 [(0, t34)]) (fun t36 w37 =>
  Do Try.prog (ze_ .append #[27, 27] 27 [false, false] [(f17 8), t36]) (fun t38 w39 =>
  K28 (F.upd (F.upd (F.upd (F.upd (F.upd (F.upd (F.upd (F.upd (F.upd (F.upd f17 31 (f17 0)) 32 t31) 34 t33) 33 t33) 35 (f17 8)) 36 (f17 0)) 37 t34) 38 t36) 39 t38) 8 t38) w39) w37) w35) w32)
  (Rd Try.prog (WS.at w32) (sBin .eql 3 true t31 (.int .i64 1)) fun t40 =>
  zi_ t40
   (Rd Try.prog (WS.at w32) (ze_ .len #[27] 3 [false] [(f17 8)]) fun t41 =>
   Rd Try.prog (WS.at w32) (sBin .gtr 3 true t41 (.int .i64 0)) fun t42 =>
   zi_ t42
    (Rd Try.prog (WS.at w32) (ze_ .len #[27] 3 [false] [(f17 8)]) fun t43 =>
    CallK Try.prog 146 [(f17 0), t43] (fun t44 w45 =>
    CallK Try.prog 146 [(f17 0), (.int .i64 9)] (fun t46 w47 =>
    Rd Try.prog (WS.at w47) (sBin .sub 3 true t46 (.int .i64 1)) fun t48 =>
    Rd Try.prog (WS.at w47) (zd_ 27 (f17 8) t44) fun t49 =>
    Do Try.prog (zx_ 3 t49 t48) (fun _ w50 =>
    K28 (F.upd (F.upd (F.upd (F.upd (F.upd (F.upd (F.upd (F.upd (F.upd (F.upd (F.upd (F.upd (F.upd (F.upd (F.upd (F.upd (F.upd (F.upd f17 31 (f17 0)) 32 t31) 34 t33) 33 t33) 41 t40) 40 t40) 42 (f17 8)) 43 t41) 44 t42) 45 (f17 8)) 46 (f17 0)) 47 (f17 8)) 48 t43) 49 t44) 50 (f17 0)) 51 t46) 52 t48) 53 t49) w50) w47) w45) w32)
    (K28 (F.upd (F.upd (F.upd (F.upd (F.upd (F.upd (F.upd (F.upd (F.upd f17 31 (f17 0)) 32 t31) 34 t33) 33 t33) 41 t40) 40 t40) 42 (f17 8)) 43 t41) 44 t42) w32))
   (K28 (F.upd (F.upd (F.upd (F.upd (F.upd (F.upd f17 31 (f17 0)) 32 t31) 34 t33) 33 t33) 41 t40) 40 t40) w32))) w18) (fun f29 w30 =>
 Rd Try.prog (WS.at w30) (zc_ 26 (f29 4)) fun t51 =>
 Do Try.prog (zx_ 26 (f29 2) t51) (fun _ w52 =>
 Rd Try.prog (WS.at w52) (zac_ 26 (f29 2)) fun t53 => k (.tuple #[t53, (f29 8)]) w52) w30))) w10) w7) w6) w4) w2) w
theorem body220 : Try.f220.body = some (zg_ Try.f220) := by kernel_rfl
theorem same220 (v0 : Value) (k : Value → World → Prop) (w : World) : wpF Try.prog pl220 (zg_ Try.f220) (zr_ Try.prog Try.f220.results.toList k) (zm_ [v0]) w = S220 v0 k w := by kernel_rfl
theorem enter220 {v0 : Value} {k : Value → World → Prop} {w : World} (h : S220 v0 k w) : CallK Try.prog 220 [v0] k w :=
  call_of_wpF (pl := pl220) zab_ Try.func220 body220 (by kernel_rfl) (of_decide_eq_true (by kernel_rfl)) (by kernel_rfl) (by kernel_rfl) (Eq.mpr (same220 v0 k w) h)

def pl229 : Plans := fun _ => ⟨false, [], .nil⟩
def S229 (v0 v1 : Value) (k : Value → World → Prop) (w : World) : Prop :=
 Rd Try.prog (WS.at w) (sBin .add 3 true v1 (.int .i64 1)) fun t1 =>
 CallK Try.prog 146 [v0, t1] (fun t2 w3 =>
 Rd Try.prog (WS.at w3) (sBin .add 3 true v1 (.int .i64 1)) fun t4 =>
 Rd Try.prog (WS.at w3) (sBin .sub 3 false t4 t2) fun t5 =>
 CallK Try.prog 146 [v0, t5] (fun t6 w7 =>
 Rd Try.prog (WS.at w7) (sBin .add 3 false t2 t6) fun t8 =>
 Rd Try.prog (WS.at w7) (sBin .add 3 true v1 (.int .i64 1)) fun t9 =>
 Rd Try.prog (WS.at w7) (sBin .sub 3 false t9 t8) fun t10 =>
 CallK Try.prog 146 [v0, t10] (fun t11 w12 =>
 Rd Try.prog (WS.at w12) (sBin .add 3 false t8 t11) fun t13 =>
 Rd Try.prog (WS.at w12) (sBin .add 3 true v1 (.int .i64 1)) fun t14 =>
 Rd Try.prog (WS.at w12) (sBin .sub 3 false t14 t13) fun t15 =>
 CallK Try.prog 146 [v0, t15] (fun t16 w17 =>
 Rd Try.prog (WS.at w17) (sBin .add 3 false t13 t16) fun t18 =>
 Do Try.prog (zh_ 27 4 [(0, t2), (1, t8), (2, t13), (3, t18)]) (fun t19 w20 =>
 Join (fun K21 =>
 CallK Try.prog 176 [v0, (.int .i64 20)] (fun t24 w25 =>
 zi_ t24
  (Rd Try.prog (WS.at w25) (sBin .add 3 true v1 (.int .i64 1)) fun t26 =>
  Rd Try.prog (WS.at w25) (zd_ 27 t19 (.int .i64 0)) fun t27 =>
  Do Try.prog (zx_ 3 t27 t26) (fun _ w28 =>
  K21 (F.upd (F.upd (F.upd (F.upd (F.upd (F.upd (F.upd (F.upd (F.upd (F.upd (F.upd (F.upd (F.upd (F.upd (F.upd (F.upd (F.upd (F.upd (F.upd (F.upd (F.upd (F.upd (F.upd (F.upd (F.upd (F.upd (F.upd (F.upd (F.upd (F.upd (F.upd (F.upd (F.upd (F.upd (F.upd (F.upd (F.upd (F.upd (F.upd (F.upd (F.upd (F.upd (F.upd (zm_ [v0, v1]) 4 (.slice none 0 0)) 9 v0) 10 v1) 11 t1) 12 t2) 5 t2) 13 t2) 14 v0) 15 v1) 16 t4) 17 t2) 18 t5) 19 t6) 20 t8) 6 t8) 21 t8) 22 v0) 23 v1) 24 t9) 25 t8) 26 t10) 27 t11) 28 t13) 7 t13) 29 t2) 30 t8) 31 t13) 32 t13) 33 v0) 34 v1) 35 t14) 36 t13) 37 t15) 38 t16) 39 t18) 40 t19) 8 t19) 41 v0) 42 t24) 43 t19) 44 v1) 45 t26) 46 t27) w28) w25)
  (K21 (F.upd (F.upd (F.upd (F.upd (F.upd (F.upd (F.upd (F.upd (F.upd (F.upd (F.upd (F.upd (F.upd (F.upd (F.upd (F.upd (F.upd (F.upd (F.upd (F.upd (F.upd (F.upd (F.upd (F.upd (F.upd (F.upd (F.upd (F.upd (F.upd (F.upd (F.upd (F.upd (F.upd (F.upd (F.upd (F.upd (F.upd (F.upd (F.upd (zm_ [v0, v1]) 4 (.slice none 0 0)) 9 v0) 10 v1) 11 t1) 12 t2) 5 t2) 13 t2) 14 v0) 15 v1) 16 t4) 17 t2) 18 t5) 19 t6) 20 t8) 6 t8) 21 t8) 22 v0) 23 v1) 24 t9) 25 t8) 26 t10) 27 t11) 28 t13) 7 t13) 29 t2) 30 t8) 31 t13) 32 t13) 33 v0) 34 v1) 35 t14) 36 t13) 37 t15) 38 t16) 39 t18) 40 t19) 8 t19) 41 v0) 42 t24) w25)) w20) (fun f22 w23 =>
 k (f22 8) w23)) w17) w12) w7) w3) w
theorem body229 : Try.f229.body = some (zg_ Try.f229) := by kernel_rfl
theorem same229 (v0 v1 : Value) (k : Value → World → Prop) (w : World) : wpF Try.prog pl229 (zg_ Try.f229) (zr_ Try.prog Try.f229.results.toList k) (zm_ [v0, v1]) w = S229 v0 v1 k w := by kernel_rfl
theorem enter229 {v0 v1 : Value} {k : Value → World → Prop} {w : World} (h : S229 v0 v1 k w) : CallK Try.prog 229 [v0, v1] k w :=
  call_of_wpF (pl := pl229) zab_ Try.func229 body229 (by kernel_rfl) (of_decide_eq_true (by kernel_rfl)) (by kernel_rfl) (by kernel_rfl) (Eq.mpr (same229 v0 v1 k w) h)

end Go.Proofs.Ytegcjkhebecgbaa
