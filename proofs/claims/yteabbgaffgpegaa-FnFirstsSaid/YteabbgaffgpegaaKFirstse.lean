/- Texts of this repository put together: Sh85, Sh86, Sh87, Sh88, ShM1, ShM2, ShM3, ShM4, ShM5, ShN1, Bh, ShM6, ShM7, ShN2, Bo, ShO2, Bp, ShY3, Sh89, Sh8A, Sh8B, Sh1z, Sh8C. -/
import Derived.Test.YteabbgaffgpegaaKFirstsd
import Derived.Test.YteabbgaffgpegaaKFirstsb
import Derived.Test.YteabbgaffgpegaaKFirstsc
import Derived.Test.YteabbgaffgpegaaProg
import Derived.Test.YteabbgaffgpegaaKFirstsa

set_option linter.unusedVariables false
set_option linter.unusedSimpArgs false
set_option maxRecDepth 100000
namespace Go.Sh
open Go
structure FiOk (rs : List RuleL) (B : List Bool) : Prop extends HdK rs B where
  ok : ∀ A, A < 6 → ∀ t, hdF B A t → Fst rs (.inl A) t
  no : ∀ n, 36 ≤ n → atB B n = false
theorem FiOk.le_fsq {rs : List RuleL} {B C : List Bool} (h : leB B C) {xs : List Int} {t : Int} (g : Fsq (hdN B) (hdF B) xs t) : Fsq (hdN C) (hdF C) xs t := by
  induction xs with
  | nil => exact g
  | cons x xs ih =>
    rcases g with g | ⟨h0, g | ⟨hn, g⟩⟩
    · exact .inl g
    · exact .inr ⟨h0, .inl ⟨g.1, g.2.1, h.2 _ g.2.2⟩⟩
    · exact .inr ⟨h0, .inr ⟨h.2 _ hn, ih g⟩⟩
theorem FiOk.seq {rs : List RuleL} {B : List Bool} (h : FiOk rs B) {xs : List Int} (hx : ∀ x ∈ xs, x < 6) {t : Int} (g : Fsq (hdN B) (hdF B) xs t) : Fst rs (.inr xs) t :=
  fst_seq.2 (zkh_ (fun A hA => (h.nu A hA).1) (fun A hA t => h.ok A hA t) hx g)
theorem FiOk.up {rs : List RuleL} {B C S : List Bool} (h : FiOk rs B) {r : RuleL} (hr : r ∈ rs) (h0 : 0 ≤ r.1 ∧ r.1 < 6) (hx : ∀ x ∈ r.2, x < 6) (hS : ∀ t : Nat, t < 4 → (atB S t = true ↔ zae_ B r.2 ∧ Fsq (hdN B) (hdF B) r.2 t)) (g : OrB B (12 + r.1.toNat * 4) S 4 C) : FiOk rs C := by
  refine ⟨h.toHdK.up g (by omega), fun A hA t hf => ?_, fun n hn => ?_⟩
  · obtain ⟨h1, h2, h3⟩ := hf
    rcases (g.cell _).1 h3 with h4 | ⟨u, hu, e, h4⟩
    · exact h.ok A hA t ⟨h1, h2, h4⟩
    · have e1 : A = r.1.toNat := by omega
      have e2 : t = (u : Int) := by omega
      obtain ⟨h5, h6⟩ := (hS u hu).1 h4
      rw [e2]
      exact .rule hr (by omega) ((h.toHdK.made hx).1 h5) (h.seq hx h6)
  · rw [Bool.eq_false_iff]
    intro hc
    rcases (g.cell _).1 hc with h4 | ⟨u, hu, e, _⟩
    · rw [h.no n hn] at h4
      cases h4
    · omega
theorem FiOk.full {rs : List RuleL} {B : List Bool} (h : FiOk rs B) (h6 : ∀ r ∈ rs, (0 ≤ r.1 ∧ r.1 < 6) ∧ ∀ x ∈ r.2, x < 6) (hs : ∀ r ∈ rs, ∀ x ∈ r.2, -4 ≤ x) (hc : ∀ r ∈ rs, zae_ B r.2 → ∀ t : Nat, t < 4 → Fsq (hdN B) (hdF B) r.2 t → hdF B r.1.toNat t) : HdF rs B := by
  refine ⟨h.toHdK, fun A hA t => ⟨h.ok A hA t, fun hf => ?_⟩⟩
  have key := zbp_ (F := fun A t => A < 6 → hdF B A t) (fun r hr A hA hm t ht hlt => ?_) hf
  · exact key hA
  · have hx : ∀ x ∈ r.2, x < 6 := (h6 r hr).2
    have ht' : Fsq (hdN B) (hdF B) r.2 t := zkh_ (fun A hA => (h.nu A hA).2) (fun A hA t h => h hA) hx ht
    have hb : 0 ≤ t ∧ t < 4 := zih_ (h.seq hx ht') (fun t => 0 ≤ t ∧ t < 4) (fun r hr x hx h0 => by have := hs r hr x hx; omega) (fun x hx h0 => by have := hs r hr x hx; omega)
    have := hc r hr ((h.toHdK.made hx).2 hm) t.toNat (by omega) (by rwa [show ((t.toNat : Nat) : Int) = t from by omega])
    rwa [hA, Int.toNat_natCast, show ((t.toNat : Nat) : Int) = t from by omega] at this
end Go.Sh
namespace Go.Proofs.Yteabbgaffgpegaa
open Go Go.Sh Go.RowKit
theorem inf145' : Inf Try.prog 145 (.agg (Array.replicate 66 (.bool false))) 66 66 := zke_ (by kernel_rfl)
theorem bd145 {S : WS} {k : Value → Prop} {A N : List Bool} (hA : A.length = 6) (hN : N.length = 6) : Rd Try.prog S (zx_ 145 [(0, arrB A), (1, arrB N)]) k = k (arrB (A ++ N ++ List.replicate 54 false)) := by
  obtain ⟨a0, a1, a2, a3, a4, a5, rfl⟩ := ztg_ hA
  obtain ⟨n0, n1, n2, n3, n4, n5, rfl⟩ := ztg_ hN
  exact zkm_ (ps := [(0, 6), (6, 6), (12, 24), (36, 24), (60, 6)]) Try.underlying145 inf145' ⟨⟨rfl, sz141⟩, ⟨rfl, sz141⟩, ⟨rfl, sz143⟩, ⟨rfl, sz143⟩, ⟨rfl, sz141⟩, trivial⟩ (by kernel_rfl)
theorem bools308 : BoolT Try.prog 4 145 66 := by
  have b4 : ∀ d, BoolT Try.prog (d + 1) 4 1 := fun d => boolT_one Try.underlying4
  have c4 : Try.prog.cellsOf 4 = 1 := by kernel_rfl
  have b163 : ∀ d, BoolT Try.prog (d + 2) 141 6 := fun d => zki_ (n := 6) u141 (by kernel_rfl) c4 (b4 d)
  have b309 : ∀ d, BoolT Try.prog (d + 2) 71 4 := fun d => zki_ (n := 4) u71 (by kernel_rfl) c4 (b4 d)
  have c309 : Try.prog.cellsOf 71 = 4 := by kernel_rfl
  have b310 : ∀ d, BoolT Try.prog (d + 3) 143 24 := fun d => zki_ (n := 6) u143 (by kernel_rfl) c309 (b309 d)
  have c163 : Try.prog.cellsOf 141 = 6 := by kernel_rfl
  have c310 : Try.prog.cellsOf 143 = 24 := by kernel_rfl
  refine zbr_ Try.underlying145 (by kernel_rfl) (by kernel_rfl) fun f hf => ?_
  simp only [List.mem_cons, List.not_mem_nil, or_false] at hf
  rcases hf with rfl | rfl | rfl | rfl | rfl
  · dsimp only; rw [c163]; exact ⟨by decide, b163 1⟩
  · dsimp only; rw [c163]; exact ⟨by decide, b163 1⟩
  · dsimp only; rw [c310]; exact ⟨by decide, b310 0⟩
  · dsimp only; rw [c310]; exact ⟨by decide, b310 0⟩
  · dsimp only; rw [c163]; exact ⟨by decide, b163 1⟩
theorem zfp_ {B : List Bool} (hB : B.length = 66) : (arrB B).formed Try.prog 145 = true := by
  have hc : Try.prog.cellsOf 145 = 66 := by kernel_rfl
  simp [arrB, Value.formed, Try.underlying145, hc, hB]
theorem map_bool_inj {B C : List Bool} : B.map Value.bool = C.map Value.bool ↔ B = C := by
  constructor
  · exact fun h => (List.map_inj_right (fun a b e => by injection e)).1 h
  · exact fun h => by rw [h]
theorem neq308 {S : WS} {k : Value → Prop} {c : Bool} {B C : List Bool} (hB : B.length = 66) (hC : C.length = 66) : Rd Try.prog S (sBin .neq 145 c (arrB B) (arrB C)) k = k (.bool (!decide (B = C))) := by
  refine rd_neq_agg (m := 5) (d := 4) (by decide) (by kernel_rfl) (by kernel_rfl) (by kernel_rfl) (zfp_ hB) (zfp_ hC) (by simpa using bools308 B hB) (by simpa using bools308 C hC) ?_
  rw [decide_eq_true_eq]
  exact map_bool_inj.symm
end Go.Proofs.Yteabbgaffgpegaa

namespace Go.Sh
open Go
def FolP (rs : List RuleL) (B C : List Bool) (l : Nat) (x : Int) (rest : List Int) : Prop :=
  (Made rs rest → ∀ t, Fst rs (.inr rest) t → hdW C x.toNat t) ∧ (Nulls rs rest → (∀ t, hdW B l t → hdW C x.toNat t) ∧ (hdL B l → hdL C x.toNat))
theorem FolP.le {rs : List RuleL} {B C D : List Bool} {l : Nat} {x : Int} {rest : List Int} (h : FolP rs B C l x rest) (g : leB C D) : FolP rs B D l x rest :=
  ⟨fun h1 t h2 => by obtain ⟨a, b, c⟩ := h.1 h1 t h2; exact ⟨a, b, g.2 _ c⟩, fun h1 => ⟨fun t h2 => by obtain ⟨a, b, c⟩ := (h.2 h1).1 t h2; exact ⟨a, b, g.2 _ c⟩, fun h2 => g.2 _ ((h.2 h1).2 h2)⟩⟩
def FolL (rs : List RuleL) (B : List Bool) : Prop := ∀ W L, FolC rs W L → (∀ A, A < 6 → ∀ t, hdW B A t → W A t) ∧ ∀ A, A < 6 → hdL B A → L A
structure FoOk (rs : List RuleL) (B : List Bool) : Prop extends HdF rs B where
  zero : hdL B 0
  least : FolL rs B
section
variable {rs : List RuleL} {B C S : List Bool} {r : RuleL} {m : Nat} {x : Int} {rest : List Int} {e : Bool}
theorem FoOk.up1 (h : FoOk rs B) (hr : r ∈ rs) (h0 : 0 ≤ r.1 ∧ r.1 < 6) (hd : r.2.drop m = x :: rest) (hx : ¬ x < 0 ∧ x < 6) (h6 : ∀ y ∈ rest, y < 6)
    (hS : ∀ t : Nat, t < 4 → (atB S t = true ↔ zae_ B rest ∧ Fsq (hdN B) (hdF B) rest t)) (he : e = true ↔ zae_ B rest ∧ zxf_ B rest)
    (g : OrB B (36 + x.toNat * 4) ((List.range 4).map fun t => atB S t || (e && atB B (36 + r.1.toNat * 4 + t))) 4 C) : FoOk rs C ∧
    (Made rs rest → ∀ t, 0 ≤ t ∧ t < 4 → Fst rs (.inr rest) t → hdW C x.toNat t) ∧ (Nulls rs rest → ∀ t, hdW B r.1.toNat t → hdW C x.toNat t) := by
  have hat : ∀ t, t < 4 → (atB ((List.range 4).map fun t => atB S t || (e && atB B (36 + r.1.toNat * 4 + t))) t = true ↔ atB S t = true ∨ (e = true ∧ atB B (36 + r.1.toNat * 4 + t) = true)) := fun t ht => by
    unfold atB
    rw [List.getD_eq_getElem?_getD, List.getElem?_map, List.getElem?_range ht]
    simp
  refine ⟨⟨h.toHdF.up g (by omega), (g.cell _).2 (.inl h.zero), fun W L hW => ?_⟩, fun hm t ht hf => ⟨ht.1, ht.2, (g.cell _).2 (.inr ⟨t.toNat, by omega, rfl, (hat _ (by omega)).2 (.inl ((hS _ (by omega)).2 ⟨(h.toHdK.made h6).2 hm, ?_⟩))⟩)⟩, fun hn t ht => ⟨ht.1, ht.2.1, (g.cell _).2 (.inr ⟨t.toNat, by have := ht.1; have := ht.2.1; omega, rfl, (hat _ (by have := ht.1; have := ht.2.1; omega)).2 (.inr ⟨he.2 ⟨(h.toHdK.made h6).2 (zvh_ hn), (h.toHdK.nulls h6).2 hn⟩, ht.2.2⟩)⟩)⟩⟩
  · refine ⟨fun A hA t hw => ?_, fun A hA hl => ?_⟩
    · obtain ⟨h1, h2, h3⟩ := hw
      rcases (g.cell _).1 h3 with h4 | ⟨u, hu, ee, h4⟩
      · exact (h.least W L hW).1 A hA t ⟨h1, h2, h4⟩
      · have e1 : A = x.toNat := by omega
        have e2 : t = (u : Int) := by omega
        rw [e1, e2]
        rcases (hat u hu).1 h4 with h5 | ⟨h5, h6'⟩
        · obtain ⟨h7, h8⟩ := (hS u hu).1 h5
          exact hW.fst r hr m x rest hd hx.1 ((h.toHdK.made h6).1 h7) _ ((h.toHdF.seq h6).1 h8)
        · refine hW.fol r hr m x rest hd hx.1 ((h.toHdK.nulls h6).1 (he.1 h5).2) _ ((h.least W L hW).1 _ (by omega) _ ⟨by omega, by omega, ?_⟩)
          rwa [Int.toNat_natCast]
    · rcases (g.cell _).1 hl with h4 | ⟨u, hu, ee, h4⟩
      · exact (h.least W L hW).2 A hA h4
      · omega
  · rw [show ((t.toNat : Nat) : Int) = t from by omega]
    exact (h.toHdF.seq h6).2 hf
theorem FoOk.up2 {v : Bool} (h : FoOk rs B) (hr : r ∈ rs) (h0 : 0 ≤ r.1 ∧ r.1 < 6) (hd : r.2.drop m = x :: rest) (hx : ¬ x < 0 ∧ x < 6) (h6 : ∀ y ∈ rest, y < 6)
    (he : e = true ↔ zae_ B rest ∧ zxf_ B rest) (g : OrB B (60 + x.toNat) [e && atB B (60 + r.1.toNat)] 1 C) : FoOk rs C ∧ (Nulls rs rest → hdL B r.1.toNat → hdL C x.toNat) := by
  refine ⟨⟨h.toHdF.up g (by omega), (g.cell _).2 (.inl h.zero), fun W L hW => ⟨fun A hA t hw => ?_, fun A hA hl => ?_⟩⟩, fun hn hl => (g.cell _).2 (.inr ⟨0, by omega, rfl, ?_⟩)⟩
  · obtain ⟨h1, h2, h3⟩ := hw
    rcases (g.cell _).1 h3 with h4 | ⟨u, hu, ee, h4⟩
    · exact (h.least W L hW).1 A hA t ⟨h1, h2, h4⟩
    · omega
  · rcases (g.cell _).1 hl with h4 | ⟨u, hu, ee, h4⟩
    · exact (h.least W L hW).2 A hA h4
    · obtain rfl : u = 0 := by omega
      have h4 : (e && atB B (60 + r.1.toNat)) = true := h4
      rw [Bool.and_eq_true] at h4
      obtain rfl : A = x.toNat := by omega
      exact hW.last r hr m x rest hd hx.1 ((h.toHdK.nulls h6).1 (he.1 h4.1).2) ((h.least W L hW).2 _ (by omega) h4.2)
  · show (e && atB B (60 + r.1.toNat)) = true
    rw [Bool.and_eq_true]
    exact ⟨he.2 ⟨(h.toHdK.made h6).2 (zvh_ hn), (h.toHdK.nulls h6).2 hn⟩, hl⟩
theorem FoOk.full (h : FoOk rs B) (h6 : ∀ r ∈ rs, (0 ≤ r.1 ∧ r.1 < 6) ∧ ∀ x ∈ r.2, x < 6) (hc : ∀ r ∈ rs, ∀ m x rest, r.2.drop m = x :: rest → ¬ x < 0 → FolP rs B B r.1.toNat x rest) : HdA rs B := by
  have hx : ∀ r ∈ rs, ∀ m x rest, r.2.drop m = x :: rest → x.toNat < 6 := fun r hr m x rest hd => by
    have : x ∈ r.2 := List.mem_of_mem_drop (by rw [hd]; exact List.mem_cons_self ..)
    have := (h6 r hr).2 x this
    omega
  refine ⟨h.toHdF, ⟨⟨by omega, h.zero⟩, fun r hr m x rest hd h0 hm t ht => ⟨hx r hr m x rest hd, (hc r hr m x rest hd h0).1 hm t ht⟩, fun r hr m x rest hd h0 hn t ht => ⟨hx r hr m x rest hd, ((hc r hr m x rest hd h0).2 hn).1 t ht.2⟩, fun r hr m x rest hd h0 hn hl => ⟨hx r hr m x rest hd, ((hc r hr m x rest hd h0).2 hn).2 hl.2⟩⟩, h.least⟩
end
theorem zpf_ {z : List Value} {B : List Bool} {n : Nat} (hz : z.length = n) : z.take 0 ++ (arrB B).cells.toList ++ z.drop (0 + n) = B.map Value.bool := by
  rw [zkf_, List.drop_eq_nil_of_le (by omega)]
  simp
end Go.Sh

namespace Go.Proofs.Yteabbgaffgpegaa
open Go Go.Sh Go.RowKit
section
variable {w : World} {k : Value → World → Prop} {Y : Option Addr} {cy : Nat} {gm : Gram}
abbrev gcs (gm : Gram) (Y : Option Addr) (cy : Nat) : List Value := [.int .i64 gm.nons, .int .i64 gm.toks, .slice Y gm.rules.length cy]
attribute [local irreducible] Rd Do CallK zb_ zk_ Join zfb_ zeb_ zc_ zcb_ sBin sUn ze_ zu_ zib_ zd_ za_ zyb_
set_option maxHeartbeats 12800000 in
theorem heads_c (hG : kG Y cy gm.rules w) (h6 : SixR gm.rules) (h4 : ∀ r ∈ gm.rules, r.2.length ≤ 1000 ∧ ∀ x ∈ r.2, -4 ≤ x) (hk : ∀ w' b B, Gr w w' → Box w' b (B.map Value.bool) 145 → HdA gm.rules B → k (ptrv b) w') :
    CallK Try.prog 46 [grv gm Y cy] k w := by
  refine enter46 ?_
  unfold S46
  have hr44 : ∀ r ∈ gm.rules, ∀ x ∈ r.2, -4 ≤ x ∧ x < 6 := fun r hr x hx => ⟨(h4 r hr).2 x hx, (h6 r hr).2 x hx⟩
  have H := Apt.nil w
  refine boxH H fun b1 w1 H => ?_
  have H := H.drew
  have H : Apt w w1.drew [bx b1 (gcs gm Y cy) 26] := H
  have B1 := H.box 0 rfl
  refine ⟨fun w' => Gr w1.drew w', Gr.refl _, ?_⟩
  refine rdi (rdS26 rfl fun w' h => B1.gr h) (rdi (rdS26 rfl fun w' h => B1.gr h) ?_)
  refine zdr_ ⟨hG.1, hG.2.gr H.gr⟩ h6 fun w2 Ap g hAp hp => ?_
  have H := H.step g
  refine ⟨g, ?_⟩
  refine nullable_c ⟨hG.1, hG.2.gr H.gr⟩ h6 fun w3 An g hAn hn => ?_
  have H := H.step g
  refine rdi (bd145 hAp hAn) ?_
  refine boxH H fun bh w4 H => ?_
  rw [zkf_] at H
  have hlen0 : (Ap ++ An ++ List.replicate 54 false).length = 66 := by simp [hAp, hAn]
  have hK0 : HdK gm.rules (Ap ++ An ++ List.replicate 54 false) := by
    refine ⟨hlen0, fun A hA => ?_, fun A hA => ?_⟩
    · rw [← hp A]
      unfold hdP atB
      rw [List.append_assoc, List.getD_eq_getElem?_getD, List.getD_eq_getElem?_getD, List.getElem?_append_left (by omega)]
    · rw [← hn A]
      unfold hdN atB
      rw [List.append_assoc, List.getD_eq_getElem?_getD, List.getD_eq_getElem?_getD, List.getElem?_append_right (by omega), hAp, show 6 + A - 6 = A from by omega, List.getElem?_append_left (by omega)]
  have hz0 : ∀ n, 12 ≤ n → atB (Ap ++ An ++ List.replicate 54 false) n = false := fun n hn' => by
    unfold atB
    rw [List.getD_eq_getElem?_getD, List.getElem?_append_right (by simp [hAp, hAn]; omega), List.getElem?_replicate]
    split <;> rfl
  have hF0 : FiOk gm.rules (Ap ++ An ++ List.replicate 54 false) := ⟨hK0, fun A hA t hf => (by rw [hdF, hz0 _ (by omega)] at hf; cases hf.2.2), fun n hn' => hz0 n (by omega)⟩
  generalize hB0 : Ap ++ An ++ List.replicate 54 false = B0 at *
  clear hB0 hz0 hK0 hlen0 hp hn
  have H : Apt w w4 [bx b1 (gcs gm Y cy) 26, bx bh (B0.map Value.bool) 145] := H
  refine zfc_ (σ := List Bool × Bool) (fun s f w' => f 4 = .bool s.2 ∧ FiOk gm.rules s.1 ∧ (s.2 = false → ∀ r ∈ gm.rules, zae_ s.1 r.2 → ∀ t : Nat, t < 4 → Fsq (hdN s.1) (hdF s.1) r.2 t → hdF s.1 r.1.toNat t) ∧
      Apt w w' [bx b1 (gcs gm Y cy) 26, bx bh (s.1.map Value.bool) 145])
    (fun s => if s.2 = true then 68 - s.1.count true else 0) (B0, true) ⟨rfl, hF0, (fun h => by cases h), H⟩ ?_
  clear H hF0
  rintro ⟨B, more⟩ f w5 N hag ⟨f4, hF, hcl, H⟩ hN
  dsimp only at f4 hF hcl H hN
  have f1 : f 1 = ptrv b1 := hag 1 (by decide)
  have f3 : f 3 = ptrv bh := hag 3 (by decide)
  simp only [f1, f3, f4, zq18, zq19, zq20, zq21, zq22, zq23, zq24, zq25, zq26, zq27, zq28, zq4, zq3, zq1, zq2, zq0, zq29, zq30, zq14, zq15, zq16, zq17, zq13, zq10, zq12, zq11, zq7, zq5, zq6, zq9, zq8, zq31, zq32, ite_T, ite_F, zq33, zq34, zq35, Nat.reduceEqDiff, len22, len24, fa26_0, fa26_1, fa26_2, len27, len35, fa86_0, fa86_1, fa86_2, fa97_0, fa97_1, fa106_0, fa106_1, fa145_0, fa145_1, fa145_2, fa145_3, fa145_4, len192]
  have hcnt : B.count true ≤ 66 := hF.len ▸ List.count_le_length
  cases more
  case true =>
    simp only [f1, f3, zq18, zq19, zq20, zq21, zq22, zq23, zq24, zq25, zq26, zq27, zq28, zq4, zq3, zq1, zq2, zq0, zq29, zq30, zq14, zq15, zq16, zq17, zq13, zq10, zq12, zq11, zq7, zq5, zq6, zq9, zq8, zq31, zq32, ite_T, ite_F, zq33, zq34, zq35, Nat.reduceEqDiff, len22, len24, fa26_0, fa26_1, fa26_2, len27, len35, fa86_0, fa86_1, fa86_2, fa97_0, fa97_1, fa106_0, fa106_1, fa145_0, fa145_1, fa145_2, fa145_3, fa145_4, len192]
    rw [zw_ agg145 sz145 (by simp [hF.len]) (H.box 1 rfl)]
    refine zpb_ H inf145' fun b5 w6 H => ?_
    refine zdb_ H 2 rfl sz145 (zwf_ hF.len) (zmf_ B) (Nat.ble_eq_true_of_le (by simp [Value.cells])) fun w7 H => ?_
    have H : Apt w w7 [bx b1 (gcs gm Y cy) 26, bx bh (B.map Value.bool) 145, bx b5 ((Value.agg (Array.replicate 66 (.bool false))).cells.toList.take 0 ++ (arrB B).cells.toList ++ (Value.agg (Array.replicate 66 (.bool false))).cells.toList.drop (0 + 66)) 145] := H
    rw [zpf_ (by simp [Value.cells])] at H
    rw [zhe_ (H.box 0 rfl) rfl]
    simp only [zq18, zq19, zq20, zq21, zq22, zq23, zq24, zq25, zq26, zq27, zq28, zq4, zq3, zq1, zq2, zq0, zq29, zq30, zq14, zq15, zq16, zq17, zq13, zq10, zq12, zq11, zq7, zq5, zq6, zq9, zq8, zq31, zq32, ite_T, ite_F, zq33, zq34, zq35, Nat.reduceEqDiff, len22, len24, fa26_0, fa26_1, fa26_2, len27, len35, fa86_0, fa86_1, fa86_2, fa97_0, fa97_1, fa106_0, fa106_1, fa145_0, fa145_1, fa145_2, fa145_3, fa145_4, len192]
    refine zhb_ gm.rules.length 0 (fun i q w' => i ≤ gm.rules.length ∧ q 35 = .int .i64 (i : Int) ∧ ∃ B2 : List Bool, FiOk gm.rules B2 ∧ leB B B2 ∧
        (∀ z, z < i → zae_ B (rul gm.rules z).2 → ∀ t : Nat, t < 4 → Fsq (hdN B) (hdF B) (rul gm.rules z).2 t → hdF B2 (rul gm.rules z).1.toNat t) ∧
        Apt w w' [bx b1 (gcs gm Y cy) 26, bx bh (B2.map Value.bool) 145, bx b5 (B.map Value.bool) 145])
      ⟨Nat.zero_le _, rfl, B, hF, leB.refl B, (fun z hz => by omega), H⟩ ?_
    clear H
    rintro i q w8 N2 hag2 ⟨hi, q35, B2, hF2, hle, hdone, H⟩ hN2
    have q3 : q 3 = ptrv bh := (hag2 3 (by decide)).trans f3
    have q5 : q 5 = ptrv b5 := hag2 5 (by decide)
    have q33 : q 33 = .slice Y gm.rules.length cy := hag2 33 (by decide)
    have q34 : q 34 = .int .i64 gm.rules.length := hag2 34 (by decide)
    have hRF := hG.2.gr H.gr
    have hrl := hRF.le
    simp only [q3, q5, q33, q34, q35, zq18, zq19, zq20, zq21, zq22, zq23, zq24, zq25, zq26, zq27, zq28, zq4, zq3, zq1, zq2, zq0, zq29, zq30, zq14, zq15, zq16, zq17, zq13, zq10, zq12, zq11, zq7, zq5, zq6, zq9, zq8, zq31, zq32, ite_T, ite_F, zq33, zq34, zq35, Nat.reduceEqDiff, len22, len24, fa26_0, fa26_1, fa26_2, len27, len35, fa86_0, fa86_1, fa86_2, fa97_0, fa97_1, fa106_0, fa106_1, fa145_0, fa145_1, fa145_2, fa145_3, fa145_4, len192]
    by_cases hlt : i < gm.rules.length
    case neg =>
      simp only [show ¬ ((i : Int) < (gm.rules.length : Int)) from by omega, decide_false, q3, q5, zq18, zq19, zq20, zq21, zq22, zq23, zq24, zq25, zq26, zq27, zq28, zq4, zq3, zq1, zq2, zq0, zq29, zq30, zq14, zq15, zq16, zq17, zq13, zq10, zq12, zq11, zq7, zq5, zq6, zq9, zq8, zq31, zq32, ite_T, ite_F, zq33, zq34, zq35, Nat.reduceEqDiff, len22, len24, fa26_0, fa26_1, fa26_2, len27, len35, fa86_0, fa86_1, fa86_2, fa97_0, fa97_1, fa106_0, fa106_1, fa145_0, fa145_1, fa145_2, fa145_3, fa145_4, len192]
      have H := H.drew
      rw [zw_ agg145 sz145 (by simp [hF2.len]) (H.box 1 rfl), zw_ agg145 sz145 (by simp [hF.len]) (H.box 2 rfl)]
      refine rdi (neq308 hF2.len hF.len) ?_
      have H := H.erase 2
      simp only [List.eraseIdx_cons_zero, List.eraseIdx_cons_succ] at H
      refine hN (B2, !decide (B2 = B)) _ _ ⟨rfl, hF2, fun hm r hr hma t ht hs => ?_, H⟩ ?_
      · dsimp only at hm hma hs ⊢
        have e : B2 = B := by simpa using hm
        subst e
        obtain ⟨z, hz, rfl⟩ := List.getElem_of_mem hr
        have := hdone z (by omega)
        rw [zic_ hz] at this
        exact this hma t ht hs
      · dsimp only
        have hc2 : B2.count true ≤ 66 := hF2.len ▸ List.count_le_length
        rcases zpi_ hle with rfl | h
        · simp
          omega
        · rw [if_pos rfl]
          split <;> omega
    simp only [show ((i : Int) < (gm.rules.length : Int)) from by omega, decide_true, zq18, zq19, zq20, zq21, zq22, zq23, zq24, zq25, zq26, zq27, zq28, zq4, zq3, zq1, zq2, zq0, zq29, zq30, zq14, zq15, zq16, zq17, zq13, zq10, zq12, zq11, zq7, zq5, zq6, zq9, zq8, zq31, zq32, ite_T, ite_F, zq33, zq34, zq35, Nat.reduceEqDiff, len22, len24, fa26_0, fa26_1, fa26_2, len27, len35, fa86_0, fa86_1, fa86_2, fa97_0, fa97_1, fa106_0, fa106_1, fa145_0, fa145_1, fa145_2, fa145_3, fa145_4, len192]
    have hrm : rul gm.rules i ∈ gm.rules := by rw [zic_ hlt]; exact List.getElem_mem hlt
    have hl0 := (h6 _ hrm).1
    refine rdi (ixn24 hRF.ptr hlt) ?_
    refine zwh_ zdc_ zkb_ hG.2 H.gr hlt fun Z cz hcz hZ => ?_
    refine zpb_ H zvb_ fun b7 w9 H => ?_
    refine zdb_ H 3 rfl zkb_ rfl rfl rfl fun w10 H => ?_
    have H : Apt w w10 [bx b1 (gcs gm Y cy) 26, bx bh (B2.map Value.bool) 145, bx b5 (B.map Value.bool) 145, bx b7 [.int .i64 (rul gm.rules i).1, .slice Z (rul gm.rules i).2.length cz] 106] := H
    simp only [zq18, zq19, zq20, zq21, zq22, zq23, zq24, zq25, zq26, zq27, zq28, zq4, zq3, zq1, zq2, zq0, zq29, zq30, zq14, zq15, zq16, zq17, zq13, zq10, zq12, zq11, zq7, zq5, zq6, zq9, zq8, zq31, zq32, ite_T, ite_F, zq33, zq34, zq35, Nat.reduceEqDiff, len22, len24, fa26_0, fa26_1, fa26_2, len27, len35, fa86_0, fa86_1, fa86_2, fa97_0, fa97_1, fa106_0, fa106_1, fa145_0, fa145_1, fa145_2, fa145_3, fa145_4, len192]
    rw [zad_ (H.box 3 rfl) rfl]
    refine zmi_ (H.box 1 rfl) hF2.len (hZ.gr H.gr) (hr44 _ hrm) fun w11 S e g hS hset he => ?_
    have H := H.step g
    refine rdi zq1 (rdi zq2 ?_)
    refine zpb_ H inf71' fun b8 w12 H => ?_
    refine zdb_ H 4 rfl sz71 (zwf_ hS) (zmf_ S) rfl fun w13 H => ?_
    have H : Apt w w13 [bx b1 (gcs gm Y cy) 26, bx bh (B2.map Value.bool) 145, bx b5 (B.map Value.bool) 145, bx b7 [.int .i64 (rul gm.rules i).1, .slice Z (rul gm.rules i).2.length cz] 106, bx b8 ([Value.bool false, .bool false, .bool false, .bool false].take 0 ++ (arrB S).cells.toList ++ [Value.bool false, .bool false, .bool false, .bool false].drop (0 + 4)) 71] := H
    rw [zpf_ (n := 4) (z := [Value.bool false, .bool false, .bool false, .bool false]) rfl] at H
    rw [zw_ agg71 sz71 (by simp [hS]) (H.box 4 rfl)]
    refine zhb_ 4 0 (fun j p w' => j ≤ 4 ∧ p 47 = .int .i64 (j : Int) ∧ ∃ B3 : List Bool, OrB B2 (12 + (rul gm.rules i).1.toNat * 4) S j B3 ∧
        Apt w w' [bx b1 (gcs gm Y cy) 26, bx bh (B3.map Value.bool) 145, bx b5 (B.map Value.bool) 145, bx b7 [.int .i64 (rul gm.rules i).1, .slice Z (rul gm.rules i).2.length cz] 106, bx b8 (S.map Value.bool) 71])
      ⟨by omega, rfl, B2, OrB.zero _ _ _, H⟩ ?_
    clear H
    rintro j p w14 N3 hag3 ⟨hj, p47, B3, hor, H⟩ hN3
    have p3 : p 3 = ptrv bh := (hag3 3 (by decide)).trans q3
    have p7 : p 7 = ptrv b7 := hag3 7 (by decide)
    have p35 : p 35 = .int .i64 (i : Int) := (hag3 35 (by decide)).trans q35
    have p46 : p 46 = arrB S := hag3 46 (by decide)
    simp only [p3, p7, p46, p47, zq18, zq19, zq20, zq21, zq22, zq23, zq24, zq25, zq26, zq27, zq28, zq4, zq3, zq1, zq2, zq0, zq29, zq30, zq14, zq15, zq16, zq17, zq13, zq10, zq12, zq11, zq7, zq5, zq6, zq9, zq8, zq31, zq32, ite_T, ite_F, zq33, zq34, zq35, Nat.reduceEqDiff, len22, len24, fa26_0, fa26_1, fa26_2, len27, len35, fa86_0, fa86_1, fa86_2, fa97_0, fa97_1, fa106_0, fa106_1, fa145_0, fa145_1, fa145_2, fa145_3, fa145_4, len192]
    by_cases hjl : j < 4
    case neg =>
      obtain rfl : j = 4 := by omega
      simp only [show ¬ (((4 : Nat) : Int) < 4) from by omega, decide_false, p35, zq18, zq19, zq20, zq21, zq22, zq23, zq24, zq25, zq26, zq27, zq28, zq4, zq3, zq1, zq2, zq0, zq29, zq30, zq14, zq15, zq16, zq17, zq13, zq10, zq12, zq11, zq7, zq5, zq6, zq9, zq8, zq31, zq32, ite_T, ite_F, zq33, zq34, zq35, Nat.reduceEqDiff, len22, len24, fa26_0, fa26_1, fa26_2, len27, len35, fa86_0, fa86_1, fa86_2, fa97_0, fa97_1, fa106_0, fa106_1, fa145_0, fa145_1, fa145_2, fa145_3, fa145_4, len192]
      rw [zm_ (by omega) (by omega)]
      have H := (H.erase 4).erase 3
      simp only [List.eraseIdx_cons_zero, List.eraseIdx_cons_succ] at H
      refine hN2 _ _ hlt ⟨by omega, rfl, B3, hF2.up hrm hl0 (h6 _ hrm).2 hset hor, hle.trans hor.le, fun z hz hma t ht hs => ?_, H⟩
      rcases Nat.lt_succ_iff_lt_or_eq.1 hz with hz | rfl
      · obtain ⟨a1, a2, a3⟩ := hdone z hz hma t ht hs
        exact ⟨a1, a2, hor.le.2 _ a3⟩
      · refine ⟨by omega, by omega, (hor.cell _).2 (.inr ⟨t, ht, by rw [Int.toNat_natCast], (hset t ht).2 ⟨fun x hx h0 => hle.2 _ (hma x hx h0), FiOk.le_fsq (rs := gm.rules) hle hs⟩⟩)⟩
    simp only [show ((j : Int) < 4) from by omega, decide_true, zq18, zq19, zq20, zq21, zq22, zq23, zq24, zq25, zq26, zq27, zq28, zq4, zq3, zq1, zq2, zq0, zq29, zq30, zq14, zq15, zq16, zq17, zq13, zq10, zq12, zq11, zq7, zq5, zq6, zq9, zq8, zq31, zq32, ite_T, ite_F, zq33, zq34, zq35, Nat.reduceEqDiff, len22, len24, fa26_0, fa26_1, fa26_2, len27, len35, fa86_0, fa86_1, fa86_2, fa97_0, fa97_1, fa106_0, fa106_1, fa145_0, fa145_1, fa145_2, fa145_3, fa145_4, len192]
    rw [zdh_ hS hjl]
    have H := H.drew
    rw [ldB3 (H.box 3 rfl) rfl, ldB3 (H.box 3 rfl) rfl]
    refine rdi (zbe_ (by omega) hl0.2) ?_
    refine rdi (zrd_ (by omega) (by omega)) ?_
    rw [zq34, zq34, Nat.zero_add, Int.toNat_natCast]
    have hn : 12 + (rul gm.rules i).1.toNat * 4 + j < B3.length := by rw [hor.len, hF2.len]; omega
    rw [ldB4 (H.box 1 rfl) (zwd_ hn)]
    have fin : ∀ v : Bool, (v = true ↔ atB B3 (12 + (rul gm.rules i).1.toNat * 4 + j) = true ∨ atB S j = true) → ∀ w15, Apt w w15 [bx b1 (gcs gm Y cy) 26, bx bh ((B3.set (12 + (rul gm.rules i).1.toNat * 4 + j) v).map Value.bool) 145, bx b5 (B.map Value.bool) 145, bx b7 [.int .i64 (rul gm.rules i).1, .slice Z (rul gm.rules i).2.length cz] 106, bx b8 (S.map Value.bool) 71] →
        ∃ B4 : List Bool, OrB B2 (12 + (rul gm.rules i).1.toNat * 4) S (j + 1) B4 ∧ Apt w w15 [bx b1 (gcs gm Y cy) 26, bx bh (B4.map Value.bool) 145, bx b5 (B.map Value.bool) 145, bx b7 [.int .i64 (rul gm.rules i).1, .slice Z (rul gm.rules i).2.length cz] 106, bx b8 (S.map Value.bool) 71] := fun v hv w15 H => ⟨_, hor.step hn hv, H⟩
    cases h1 : atB B3 (12 + (rul gm.rules i).1.toNat * 4 + j)
    · cases h2 : atB S j
      · simp only [zq18, zq19, zq20, zq21, zq22, zq23, zq24, zq25, zq26, zq27, zq28, zq4, zq3, zq1, zq2, zq0, zq29, zq30, zq14, zq15, zq16, zq17, zq13, zq10, zq12, zq11, zq7, zq5, zq6, zq9, zq8, zq31, zq32, ite_T, ite_F, zq33, zq34, zq35, Nat.reduceEqDiff, len22, len24, fa26_0, fa26_1, fa26_2, len27, len35, fa86_0, fa86_1, fa86_2, fa97_0, fa97_1, fa106_0, fa106_1, fa145_0, fa145_1, fa145_2, fa145_3, fa145_4, len192]
        refine rdi (zbe_ (by omega) hl0.2) ?_
        refine rdi (zrd_ (by omega) (by omega)) ?_
        rw [zq34, zq34, Int.toNat_natCast]
        refine zdb_ H 1 rfl sz4 rfl rfl (Nat.ble_eq_true_of_le (by simp; omega)) fun w15 H => ?_
        rw [zbc_ hn] at H
        simp only [List.set_cons_zero, List.set_cons_succ, zq18, zq19, zq20, zq21, zq22, zq23, zq24, zq25, zq26, zq27, zq28, zq4, zq3, zq1, zq2, zq0, zq29, zq30, zq14, zq15, zq16, zq17, zq13, zq10, zq12, zq11, zq7, zq5, zq6, zq9, zq8, zq31, zq32, ite_T, ite_F, zq33, zq34, zq35, Nat.reduceEqDiff, len22, len24, fa26_0, fa26_1, fa26_2, len27, len35, fa86_0, fa86_1, fa86_2, fa97_0, fa97_1, fa106_0, fa106_1, fa145_0, fa145_1, fa145_2, fa145_3, fa145_4, len192] at H ⊢
        rw [zm_ (by omega) (by omega)]
        exact hN3 _ _ hjl ⟨by omega, rfl, fin false (by rw [h1, h2]; decide) w15 H⟩
      · simp only [zq18, zq19, zq20, zq21, zq22, zq23, zq24, zq25, zq26, zq27, zq28, zq4, zq3, zq1, zq2, zq0, zq29, zq30, zq14, zq15, zq16, zq17, zq13, zq10, zq12, zq11, zq7, zq5, zq6, zq9, zq8, zq31, zq32, ite_T, ite_F, zq33, zq34, zq35, Nat.reduceEqDiff, len22, len24, fa26_0, fa26_1, fa26_2, len27, len35, fa86_0, fa86_1, fa86_2, fa97_0, fa97_1, fa106_0, fa106_1, fa145_0, fa145_1, fa145_2, fa145_3, fa145_4, len192]
        refine rdi (zbe_ (by omega) hl0.2) ?_
        refine rdi (zrd_ (by omega) (by omega)) ?_
        rw [zq34, zq34, Int.toNat_natCast]
        refine zdb_ H 1 rfl sz4 rfl rfl (Nat.ble_eq_true_of_le (by simp; omega)) fun w15 H => ?_
        rw [zbc_ hn] at H
        simp only [List.set_cons_zero, List.set_cons_succ, zq18, zq19, zq20, zq21, zq22, zq23, zq24, zq25, zq26, zq27, zq28, zq4, zq3, zq1, zq2, zq0, zq29, zq30, zq14, zq15, zq16, zq17, zq13, zq10, zq12, zq11, zq7, zq5, zq6, zq9, zq8, zq31, zq32, ite_T, ite_F, zq33, zq34, zq35, Nat.reduceEqDiff, len22, len24, fa26_0, fa26_1, fa26_2, len27, len35, fa86_0, fa86_1, fa86_2, fa97_0, fa97_1, fa106_0, fa106_1, fa145_0, fa145_1, fa145_2, fa145_3, fa145_4, len192] at H ⊢
        rw [zm_ (by omega) (by omega)]
        exact hN3 _ _ hjl ⟨by omega, rfl, fin true (by rw [h1, h2]; decide) w15 H⟩
    · simp only [zq18, zq19, zq20, zq21, zq22, zq23, zq24, zq25, zq26, zq27, zq28, zq4, zq3, zq1, zq2, zq0, zq29, zq30, zq14, zq15, zq16, zq17, zq13, zq10, zq12, zq11, zq7, zq5, zq6, zq9, zq8, zq31, zq32, ite_T, ite_F, zq33, zq34, zq35, Nat.reduceEqDiff, len22, len24, fa26_0, fa26_1, fa26_2, len27, len35, fa86_0, fa86_1, fa86_2, fa97_0, fa97_1, fa106_0, fa106_1, fa145_0, fa145_1, fa145_2, fa145_3, fa145_4, len192]
      refine rdi (zbe_ (by omega) hl0.2) ?_
      refine rdi (zrd_ (by omega) (by omega)) ?_
      rw [zq34, zq34, Int.toNat_natCast]
      refine zdb_ H 1 rfl sz4 rfl rfl (Nat.ble_eq_true_of_le (by simp; omega)) fun w15 H => ?_
      rw [zbc_ hn] at H
      simp only [List.set_cons_zero, List.set_cons_succ, zq18, zq19, zq20, zq21, zq22, zq23, zq24, zq25, zq26, zq27, zq28, zq4, zq3, zq1, zq2, zq0, zq29, zq30, zq14, zq15, zq16, zq17, zq13, zq10, zq12, zq11, zq7, zq5, zq6, zq9, zq8, zq31, zq32, ite_T, ite_F, zq33, zq34, zq35, Nat.reduceEqDiff, len22, len24, fa26_0, fa26_1, fa26_2, len27, len35, fa86_0, fa86_1, fa86_2, fa97_0, fa97_1, fa106_0, fa106_1, fa145_0, fa145_1, fa145_2, fa145_3, fa145_4, len192] at H ⊢
      rw [zm_ (by omega) (by omega)]
      exact hN3 _ _ hjl ⟨by omega, rfl, fin true (by rw [h1]; simp) w15 H⟩
  simp only [f1, f3, zq18, zq19, zq20, zq21, zq22, zq23, zq24, zq25, zq26, zq27, zq28, zq4, zq3, zq1, zq2, zq0, zq29, zq30, zq14, zq15, zq16, zq17, zq13, zq10, zq12, zq11, zq7, zq5, zq6, zq9, zq8, zq31, zq32, ite_T, ite_F, zq33, zq34, zq35, Nat.reduceEqDiff, len22, len24, fa26_0, fa26_1, fa26_2, len27, len35, fa86_0, fa86_1, fa86_2, fa97_0, fa97_1, fa106_0, fa106_1, fa145_0, fa145_1, fa145_2, fa145_3, fa145_4, len192]
  have hcl := hcl rfl
  have hA := hF.full h6 (fun r hr => (h4 r hr).2) hcl
  have hno := hF.no
  clear hN hag hcl hF
  refine rdi (zvd_ (by decide) (by decide)) ?_
  rw [zq34]
  have hn60 : 60 + 0 < B.length := by rw [hA.len]; decide
  refine zdb_ H 1 rfl sz4 rfl rfl (Nat.ble_eq_true_of_le (by simp [hA.len])) fun w6 H => ?_
  have e60 : 0 + 60 + Int.toNat 0 = 60 := rfl
  have H : Apt w w6 [bx b1 (gcs gm Y cy) 26, bx bh ((B.map Value.bool).take 60 ++ (Value.bool true).cells.toList ++ (B.map Value.bool).drop (60 + 1)) 145] := H
  rw [zbc_ (by omega)] at H
  have hF0 : FoOk gm.rules (B.set 60 true) := by
    have g : OrB B 60 [true] 1 (B.set 60 true) := by
      have := (OrB.zero B 60 [true]).step (j := 0) (v := true) (by omega) ⟨fun _ => .inr rfl, fun _ => rfl⟩
      exact this
    refine ⟨hA.up g (by omega), ?_, fun W L hW => ⟨fun A hA' t hw => ?_, fun A hA' hl => ?_⟩⟩
    · show atB (B.set 60 true) (60 + 0) = true
      rw [zxh_ (by omega), if_pos rfl]
    · rcases (g.cell _).1 hw.2.2 with h | ⟨u, hu, e, _⟩
      · rw [hno _ (by omega)] at h
        cases h
      · have := hw.1
        have := hw.2.1
        omega
    · rcases (g.cell _).1 hl with h | ⟨u, hu, e, _⟩
      · rw [hno _ (by omega)] at h
        cases h
      · obtain rfl : A = 0 := by omega
        exact hW.zero
  generalize hB0 : B.set 60 true = B0' at *
  clear hB0 hn60 hA hno
  refine zfc_ (σ := List Bool × Bool) (fun s f w' => f 12 = .bool s.2 ∧ FoOk gm.rules s.1 ∧ (s.2 = false → ∀ r ∈ gm.rules, ∀ m x rest, r.2.drop m = x :: rest → ¬ x < 0 → FolP gm.rules s.1 s.1 r.1.toNat x rest) ∧
      Apt w w' [bx b1 (gcs gm Y cy) 26, bx bh (s.1.map Value.bool) 145])
    (fun s => if s.2 = true then 68 - s.1.count true else 0) (B0', true) ⟨rfl, hF0, (fun h => by cases h), H⟩ ?_
  clear H hF0
  rintro ⟨B, more⟩ f' w5 N hag ⟨f12, hF, hcl, H⟩ hN
  dsimp only at f12 hF hcl H hN
  have f1 : f' 1 = ptrv b1 := (hag 1 (by decide)).trans f1
  have f3 : f' 3 = ptrv bh := (hag 3 (by decide)).trans f3
  simp only [f1, f3, f12, zq18, zq19, zq20, zq21, zq22, zq23, zq24, zq25, zq26, zq27, zq28, zq4, zq3, zq1, zq2, zq0, zq29, zq30, zq14, zq15, zq16, zq17, zq13, zq10, zq12, zq11, zq7, zq5, zq6, zq9, zq8, zq31, zq32, ite_T, ite_F, zq33, zq34, zq35, Nat.reduceEqDiff, len22, len24, fa26_0, fa26_1, fa26_2, len27, len35, fa86_0, fa86_1, fa86_2, fa97_0, fa97_1, fa106_0, fa106_1, fa145_0, fa145_1, fa145_2, fa145_3, fa145_4, len192]
  have hcnt : B.count true ≤ 66 := hF.len ▸ List.count_le_length
  cases more
  case false =>
    simp only [f3, zq18, zq19, zq20, zq21, zq22, zq23, zq24, zq25, zq26, zq27, zq28, zq4, zq3, zq1, zq2, zq0, zq29, zq30, zq14, zq15, zq16, zq17, zq13, zq10, zq12, zq11, zq7, zq5, zq6, zq9, zq8, zq31, zq32, ite_T, ite_F, zq33, zq34, zq35, Nat.reduceEqDiff, len22, len24, fa26_0, fa26_1, fa26_2, len27, len35, fa86_0, fa86_1, fa86_2, fa97_0, fa97_1, fa106_0, fa106_1, fa145_0, fa145_1, fa145_2, fa145_3, fa145_4, len192]
    exact hk w5 bh B H.gr (H.box 1 rfl) (hF.full h6 (hcl rfl))
  simp only [f1, f3, zq18, zq19, zq20, zq21, zq22, zq23, zq24, zq25, zq26, zq27, zq28, zq4, zq3, zq1, zq2, zq0, zq29, zq30, zq14, zq15, zq16, zq17, zq13, zq10, zq12, zq11, zq7, zq5, zq6, zq9, zq8, zq31, zq32, ite_T, ite_F, zq33, zq34, zq35, Nat.reduceEqDiff, len22, len24, fa26_0, fa26_1, fa26_2, len27, len35, fa86_0, fa86_1, fa86_2, fa97_0, fa97_1, fa106_0, fa106_1, fa145_0, fa145_1, fa145_2, fa145_3, fa145_4, len192]
  rw [zw_ agg145 sz145 (by simp [hF.len]) (H.box 1 rfl)]
  refine zpb_ H inf145' fun b5 w6 H => ?_
  refine zdb_ H 2 rfl sz145 (zwf_ hF.len) (zmf_ B) (Nat.ble_eq_true_of_le (by simp [Value.cells])) fun w7 H => ?_
  have H : Apt w w7 [bx b1 (gcs gm Y cy) 26, bx bh (B.map Value.bool) 145, bx b5 ((Value.agg (Array.replicate 66 (.bool false))).cells.toList.take 0 ++ (arrB B).cells.toList ++ (Value.agg (Array.replicate 66 (.bool false))).cells.toList.drop (0 + 66)) 145] := H
  rw [zpf_ (by simp [Value.cells])] at H
  rw [zhe_ (H.box 0 rfl) rfl]
  simp only [zq18, zq19, zq20, zq21, zq22, zq23, zq24, zq25, zq26, zq27, zq28, zq4, zq3, zq1, zq2, zq0, zq29, zq30, zq14, zq15, zq16, zq17, zq13, zq10, zq12, zq11, zq7, zq5, zq6, zq9, zq8, zq31, zq32, ite_T, ite_F, zq33, zq34, zq35, Nat.reduceEqDiff, len22, len24, fa26_0, fa26_1, fa26_2, len27, len35, fa86_0, fa86_1, fa86_2, fa97_0, fa97_1, fa106_0, fa106_1, fa145_0, fa145_1, fa145_2, fa145_3, fa145_4, len192]
  refine zhb_ gm.rules.length 0 (fun i q w' => i ≤ gm.rules.length ∧ q 89 = .int .i64 (i : Int) ∧ ∃ B2 : List Bool, FoOk gm.rules B2 ∧ leB B B2 ∧
      (∀ z, z < i → ∀ m x rest, (rul gm.rules z).2.drop m = x :: rest → ¬ x < 0 → FolP gm.rules B B2 (rul gm.rules z).1.toNat x rest) ∧
      Apt w w' [bx b1 (gcs gm Y cy) 26, bx bh (B2.map Value.bool) 145, bx b5 (B.map Value.bool) 145])
    ⟨Nat.zero_le _, rfl, B, hF, leB.refl B, (fun z hz => by omega), H⟩ ?_
  clear H
  rintro i q w8 N2 hag2 ⟨hi, q89, B2, hF2, hle, hdone, H⟩ hN2
  have q3 : q 3 = ptrv bh := (hag2 3 (by decide)).trans f3
  have q13 : q 13 = ptrv b5 := hag2 13 (by decide)
  have q87 : q 87 = .slice Y gm.rules.length cy := hag2 87 (by decide)
  have q88 : q 88 = .int .i64 gm.rules.length := hag2 88 (by decide)
  have hRF := hG.2.gr H.gr
  have hrl := hRF.le
  simp only [q3, q13, q87, q88, q89, zq18, zq19, zq20, zq21, zq22, zq23, zq24, zq25, zq26, zq27, zq28, zq4, zq3, zq1, zq2, zq0, zq29, zq30, zq14, zq15, zq16, zq17, zq13, zq10, zq12, zq11, zq7, zq5, zq6, zq9, zq8, zq31, zq32, ite_T, ite_F, zq33, zq34, zq35, Nat.reduceEqDiff, len22, len24, fa26_0, fa26_1, fa26_2, len27, len35, fa86_0, fa86_1, fa86_2, fa97_0, fa97_1, fa106_0, fa106_1, fa145_0, fa145_1, fa145_2, fa145_3, fa145_4, len192]
  by_cases hlt : i < gm.rules.length
  case neg =>
    simp only [show ¬ ((i : Int) < (gm.rules.length : Int)) from by omega, decide_false, q3, q13, zq18, zq19, zq20, zq21, zq22, zq23, zq24, zq25, zq26, zq27, zq28, zq4, zq3, zq1, zq2, zq0, zq29, zq30, zq14, zq15, zq16, zq17, zq13, zq10, zq12, zq11, zq7, zq5, zq6, zq9, zq8, zq31, zq32, ite_T, ite_F, zq33, zq34, zq35, Nat.reduceEqDiff, len22, len24, fa26_0, fa26_1, fa26_2, len27, len35, fa86_0, fa86_1, fa86_2, fa97_0, fa97_1, fa106_0, fa106_1, fa145_0, fa145_1, fa145_2, fa145_3, fa145_4, len192]
    have H := H.drew
    rw [zw_ agg145 sz145 (by simp [hF2.len]) (H.box 1 rfl), zw_ agg145 sz145 (by simp [hF.len]) (H.box 2 rfl)]
    refine rdi (neq308 hF2.len hF.len) ?_
    have H := H.erase 2
    simp only [List.eraseIdx_cons_zero, List.eraseIdx_cons_succ] at H
    refine hN (B2, !decide (B2 = B)) _ _ ⟨rfl, hF2, fun hm r hr m x rest hd h0 => ?_, H⟩ ?_
    · dsimp only at hm ⊢
      have e : B2 = B := by simpa using hm
      subst e
      obtain ⟨z, hz, rfl⟩ := List.getElem_of_mem hr
      have := hdone z (by omega)
      rw [zic_ hz] at this
      exact this m x rest hd h0
    · dsimp only
      have hc2 : B2.count true ≤ 66 := hF2.len ▸ List.count_le_length
      rcases zpi_ hle with rfl | h
      · simp
        omega
      · rw [if_pos rfl]
        split <;> omega
  simp only [show ((i : Int) < (gm.rules.length : Int)) from by omega, decide_true, zq18, zq19, zq20, zq21, zq22, zq23, zq24, zq25, zq26, zq27, zq28, zq4, zq3, zq1, zq2, zq0, zq29, zq30, zq14, zq15, zq16, zq17, zq13, zq10, zq12, zq11, zq7, zq5, zq6, zq9, zq8, zq31, zq32, ite_T, ite_F, zq33, zq34, zq35, Nat.reduceEqDiff, len22, len24, fa26_0, fa26_1, fa26_2, len27, len35, fa86_0, fa86_1, fa86_2, fa97_0, fa97_1, fa106_0, fa106_1, fa145_0, fa145_1, fa145_2, fa145_3, fa145_4, len192]
  have hrm : rul gm.rules i ∈ gm.rules := by rw [zic_ hlt]; exact List.getElem_mem hlt
  have hl0 := (h6 _ hrm).1
  have hlen4 := (h4 _ hrm).1
  refine rdi (ixn24 hRF.ptr hlt) ?_
  refine zwh_ zdc_ zkb_ hG.2 H.gr hlt fun Z cz hcz hZ => ?_
  refine zpb_ H zvb_ fun b7 w9 H => ?_
  refine zdb_ H 3 rfl zkb_ rfl rfl rfl fun w10 H => ?_
  have H : Apt w w10 [bx b1 (gcs gm Y cy) 26, bx bh (B2.map Value.bool) 145, bx b5 (B.map Value.bool) 145, bx b7 [.int .i64 (rul gm.rules i).1, .slice Z (rul gm.rules i).2.length cz] 106] := H
  simp only [zq18, zq19, zq20, zq21, zq22, zq23, zq24, zq25, zq26, zq27, zq28, zq4, zq3, zq1, zq2, zq0, zq29, zq30, zq14, zq15, zq16, zq17, zq13, zq10, zq12, zq11, zq7, zq5, zq6, zq9, zq8, zq31, zq32, ite_T, ite_F, zq33, zq34, zq35, Nat.reduceEqDiff, len22, len24, fa26_0, fa26_1, fa26_2, len27, len35, fa86_0, fa86_1, fa86_2, fa97_0, fa97_1, fa106_0, fa106_1, fa145_0, fa145_1, fa145_2, fa145_3, fa145_4, len192]
  rw [zad_ (H.box 3 rfl) rfl]
  simp only [zq18, zq19, zq20, zq21, zq22, zq23, zq24, zq25, zq26, zq27, zq28, zq4, zq3, zq1, zq2, zq0, zq29, zq30, zq14, zq15, zq16, zq17, zq13, zq10, zq12, zq11, zq7, zq5, zq6, zq9, zq8, zq31, zq32, ite_T, ite_F, zq33, zq34, zq35, Nat.reduceEqDiff, len22, len24, fa26_0, fa26_1, fa26_2, len27, len35, fa86_0, fa86_1, fa86_2, fa97_0, fa97_1, fa106_0, fa106_1, fa145_0, fa145_1, fa145_2, fa145_3, fa145_4, len192]
  generalize hrr : rul gm.rules i = r at *
  refine zhb_ r.2.length 0 (fun m p w' => m ≤ r.2.length ∧ p 96 = .int .i64 (m : Int) ∧ ∃ B3 : List Bool, FoOk gm.rules B3 ∧ leB B2 B3 ∧
      (∀ z, z < m → ∀ x rest, r.2.drop z = x :: rest → ¬ x < 0 → FolP gm.rules B B3 r.1.toNat x rest) ∧
      Apt w w' [bx b1 (gcs gm Y cy) 26, bx bh (B3.map Value.bool) 145, bx b5 (B.map Value.bool) 145, bx b7 [.int .i64 r.1, .slice Z r.2.length cz] 106])
    ⟨Nat.zero_le _, rfl, B2, hF2, leB.refl B2, (fun z hz => by omega), H⟩ ?_
  clear H
  rintro m p w11 N3 hag3 ⟨hm, p96, B3, hF3, hle3, hdone3, H⟩ hN3
  have p3 : p 3 = ptrv bh := (hag3 3 (by decide)).trans q3
  have p15 : p 15 = ptrv b7 := hag3 15 (by decide)
  have p89 : p 89 = .int .i64 (i : Int) := (hag3 89 (by decide)).trans q89
  have p94 : p 94 = .slice Z r.2.length cz := hag3 94 (by decide)
  have p95 : p 95 = .int .i64 r.2.length := hag3 95 (by decide)
  have hZm := hZ.gr H.gr
  simp only [p3, p15, p94, p95, p96, zq18, zq19, zq20, zq21, zq22, zq23, zq24, zq25, zq26, zq27, zq28, zq4, zq3, zq1, zq2, zq0, zq29, zq30, zq14, zq15, zq16, zq17, zq13, zq10, zq12, zq11, zq7, zq5, zq6, zq9, zq8, zq31, zq32, ite_T, ite_F, zq33, zq34, zq35, Nat.reduceEqDiff, len22, len24, fa26_0, fa26_1, fa26_2, len27, len35, fa86_0, fa86_1, fa86_2, fa97_0, fa97_1, fa106_0, fa106_1, fa145_0, fa145_1, fa145_2, fa145_3, fa145_4, len192]
  by_cases hmt : m < r.2.length
  case neg =>
    simp only [show ¬ ((m : Int) < (r.2.length : Int)) from by omega, decide_false, p89, zq18, zq19, zq20, zq21, zq22, zq23, zq24, zq25, zq26, zq27, zq28, zq4, zq3, zq1, zq2, zq0, zq29, zq30, zq14, zq15, zq16, zq17, zq13, zq10, zq12, zq11, zq7, zq5, zq6, zq9, zq8, zq31, zq32, ite_T, ite_F, zq33, zq34, zq35, Nat.reduceEqDiff, len22, len24, fa26_0, fa26_1, fa26_2, len27, len35, fa86_0, fa86_1, fa86_2, fa97_0, fa97_1, fa106_0, fa106_1, fa145_0, fa145_1, fa145_2, fa145_3, fa145_4, len192]
    rw [zm_ (by omega) (by omega)]
    have H := H.erase 3
    simp only [List.eraseIdx_cons_zero, List.eraseIdx_cons_succ] at H
    refine hN2 _ _ hlt ⟨by omega, rfl, B3, hF3, hle.trans hle3, fun z hz m' x rest hd h0 => ?_, H⟩
    rcases Nat.lt_succ_iff_lt_or_eq.1 hz with hz | rfl
    · exact (hdone z hz m' x rest hd h0).le hle3
    · rw [hrr] at hd ⊢
      refine hdone3 m' ?_ x rest hd h0
      have := congrArg List.length hd
      rw [List.length_drop, List.length_cons] at this
      omega
  simp only [show ((m : Int) < (r.2.length : Int)) from by omega, decide_true, zq18, zq19, zq20, zq21, zq22, zq23, zq24, zq25, zq26, zq27, zq28, zq4, zq3, zq1, zq2, zq0, zq29, zq30, zq14, zq15, zq16, zq17, zq13, zq10, zq12, zq11, zq7, zq5, zq6, zq9, zq8, zq31, zq32, ite_T, ite_F, zq33, zq34, zq35, Nat.reduceEqDiff, len22, len24, fa26_0, fa26_1, fa26_2, len27, len35, fa86_0, fa86_1, fa86_2, fa97_0, fa97_1, fa106_0, fa106_1, fa145_0, fa145_1, fa145_2, fa145_3, fa145_4, len192]
  have hd0 : r.2.drop m = r.2.getD m 0 :: r.2.drop (m + 1) := by
    rw [List.drop_eq_getElem_cons hmt, List.getD_eq_getElem?_getD, List.getElem?_eq_getElem hmt]
    rfl
  have hxm : r.2.getD m 0 ∈ r.2 := zec_ hmt
  have hxb := hr44 _ hrm _ hxm
  generalize hxx : r.2.getD m 0 = x at *
  have h6r : ∀ y ∈ r.2.drop (m + 1), y < 6 := fun y hy => (hr44 _ hrm _ (List.mem_of_mem_drop hy)).2
  refine zed_ (fun f w' => f 96 = .int .i64 (m : Int) ∧ ∃ B5 : List Bool, FoOk gm.rules B5 ∧ leB B2 B5 ∧
      (∀ z, z < m + 1 → ∀ x rest, r.2.drop z = x :: rest → ¬ x < 0 → FolP gm.rules B B5 r.1.toNat x rest) ∧
      Apt w w' [bx b1 (gcs gm Y cy) 26, bx bh (B5.map Value.bool) 145, bx b5 (B.map Value.bool) 145, bx b7 [.int .i64 r.1, .slice Z r.2.length cz] 106]) (fun K hK => ?_) ?_
  case refine_2 =>
    clear H
    rintro f7 w7 ⟨e96, B5, hF5, hle5, hdone5, H⟩
    simp only [e96, zq18, zq19, zq20, zq21, zq22, zq23, zq24, zq25, zq26, zq27, zq28, zq4, zq3, zq1, zq2, zq0, zq29, zq30, zq14, zq15, zq16, zq17, zq13, zq10, zq12, zq11, zq7, zq5, zq6, zq9, zq8, zq31, zq32, ite_T, ite_F, zq33, zq34, zq35, Nat.reduceEqDiff, len22, len24, fa26_0, fa26_1, fa26_2, len27, len35, fa86_0, fa86_1, fa86_2, fa97_0, fa97_1, fa106_0, fa106_1, fa145_0, fa145_1, fa145_2, fa145_3, fa145_4, len192]
    rw [zm_ (by omega) (by omega)]
    exact hN3 _ _ hmt ⟨by omega, rfl, B5, hF5, hle5, hdone5, H⟩
  rw [zwb_ hZm.ptr hmt, ld3 (hZm.cell m hmt), hxx]
  simp only [zq18, zq19, zq20, zq21, zq22, zq23, zq24, zq25, zq26, zq27, zq28, zq4, zq3, zq1, zq2, zq0, zq29, zq30, zq14, zq15, zq16, zq17, zq13, zq10, zq12, zq11, zq7, zq5, zq6, zq9, zq8, zq31, zq32, ite_T, ite_F, zq33, zq34, zq35, Nat.reduceEqDiff, len22, len24, fa26_0, fa26_1, fa26_2, len27, len35, fa86_0, fa86_1, fa86_2, fa97_0, fa97_1, fa106_0, fa106_1, fa145_0, fa145_1, fa145_2, fa145_3, fa145_4, len192]
  by_cases hneg : x < 0
  · simp only [hneg, decide_true, zq18, zq19, zq20, zq21, zq22, zq23, zq24, zq25, zq26, zq27, zq28, zq4, zq3, zq1, zq2, zq0, zq29, zq30, zq14, zq15, zq16, zq17, zq13, zq10, zq12, zq11, zq7, zq5, zq6, zq9, zq8, zq31, zq32, ite_T, ite_F, zq33, zq34, zq35, Nat.reduceEqDiff, len22, len24, fa26_0, fa26_1, fa26_2, len27, len35, fa86_0, fa86_1, fa86_2, fa97_0, fa97_1, fa106_0, fa106_1, fa145_0, fa145_1, fa145_2, fa145_3, fa145_4, len192]
    refine hK _ _ ⟨p96, B3, hF3, hle3, fun z hz y rest hd h0 => ?_, H⟩
    rcases Nat.lt_succ_iff_lt_or_eq.1 hz with hz | rfl
    · exact hdone3 z hz y rest hd h0
    · rw [hd0] at hd
      injection hd with e _
      exact absurd hneg (e ▸ h0)
  have hx6 : x < 6 := hxb.2
  simp only [hneg, decide_false, zq18, zq19, zq20, zq21, zq22, zq23, zq24, zq25, zq26, zq27, zq28, zq4, zq3, zq1, zq2, zq0, zq29, zq30, zq14, zq15, zq16, zq17, zq13, zq10, zq12, zq11, zq7, zq5, zq6, zq9, zq8, zq31, zq32, ite_T, ite_F, zq33, zq34, zq35, Nat.reduceEqDiff, len22, len24, fa26_0, fa26_1, fa26_2, len27, len35, fa86_0, fa86_1, fa86_2, fa97_0, fa97_1, fa106_0, fa106_1, fa145_0, fa145_1, fa145_2, fa145_3, fa145_4, len192]
  rw [zad_ (H.box 3 rfl) rfl]
  rw [zm_ (by omega) (by omega)]
  refine rdi (sll27 (by omega) (by omega)) ?_
  have hZs : Ints w11 (sub Z (m + 1) cz 1) (r.2.drop (m + 1)) := by
    have := hZm.sub (l := m + 1) (c := cz) (by omega) hcz r.2.length
    rwa [List.take_of_length_le (by simp)] at this
  have eln : r.2.length - (m + 1) = (r.2.drop (m + 1)).length := by simp
  rw [show ((m : Int) + 1).toNat = m + 1 from by omega, eln]
  refine zmi_ (H.box 1 rfl) hF3.len hZs (fun y hy => hr44 _ hrm _ (List.mem_of_mem_drop hy)) fun w12 S e g hS hset he => ?_
  have H := H.step g
  refine rdi zq1 (rdi zq2 ?_)
  refine zpb_ H inf71' fun b8 w13 H => ?_
  refine zdb_ H 4 rfl sz71 (zwf_ hS) (zmf_ S) rfl fun w14 H => ?_
  have H : Apt w w14 [bx b1 (gcs gm Y cy) 26, bx bh (B3.map Value.bool) 145, bx b5 (B.map Value.bool) 145, bx b7 [.int .i64 r.1, .slice Z r.2.length cz] 106, bx b8 ([Value.bool false, .bool false, .bool false, .bool false].take 0 ++ (arrB S).cells.toList ++ [Value.bool false, .bool false, .bool false, .bool false].drop (0 + 4)) 71] := H
  rw [zpf_ (n := 4) (z := [Value.bool false, .bool false, .bool false, .bool false]) rfl] at H
  rw [zw_ agg71 sz71 (by simp [hS]) (H.box 4 rfl)]
  refine zhb_ 4 0 (fun j p w' => j ≤ 4 ∧ p 114 = .int .i64 (j : Int) ∧ ∃ B4 : List Bool, OrB B3 (36 + x.toNat * 4) ((List.range 4).map fun t => atB S t || (e && atB B3 (36 + r.1.toNat * 4 + t))) j B4 ∧
      Apt w w' [bx b1 (gcs gm Y cy) 26, bx bh (B4.map Value.bool) 145, bx b5 (B.map Value.bool) 145, bx b7 [.int .i64 r.1, .slice Z r.2.length cz] 106, bx b8 (S.map Value.bool) 71])
    ⟨by omega, rfl, B3, OrB.zero _ _ _, H⟩ ?_
  clear H
  rintro j y w15 N4 hag4 ⟨hj, y114, B4, hor, H⟩ hN4
  have y3 : y 3 = ptrv bh := (hag4 3 (by decide)).trans p3
  have y15 : y 15 = ptrv b7 := (hag4 15 (by decide)).trans p15
  have y17 : y 17 = .int .i64 x := hag4 17 (by decide)
  have y19 : y 19 = .bool e := hag4 19 (by decide)
  have y96 : y 96 = .int .i64 (m : Int) := (hag4 96 (by decide)).trans p96
  have y113 : y 113 = arrB S := hag4 113 (by decide)
  simp only [y3, y15, y17, y19, y113, y114, zq18, zq19, zq20, zq21, zq22, zq23, zq24, zq25, zq26, zq27, zq28, zq4, zq3, zq1, zq2, zq0, zq29, zq30, zq14, zq15, zq16, zq17, zq13, zq10, zq12, zq11, zq7, zq5, zq6, zq9, zq8, zq31, zq32, ite_T, ite_F, zq33, zq34, zq35, Nat.reduceEqDiff, len22, len24, fa26_0, fa26_1, fa26_2, len27, len35, fa86_0, fa86_1, fa86_2, fa97_0, fa97_1, fa106_0, fa106_1, fa145_0, fa145_1, fa145_2, fa145_3, fa145_4, len192]
  by_cases hjl : j < 4
  case neg =>
    obtain rfl : j = 4 := by omega
    simp only [show ¬ (((4 : Nat) : Int) < 4) from by omega, decide_false, y3, y15, y17, y19, y96, zq18, zq19, zq20, zq21, zq22, zq23, zq24, zq25, zq26, zq27, zq28, zq4, zq3, zq1, zq2, zq0, zq29, zq30, zq14, zq15, zq16, zq17, zq13, zq10, zq12, zq11, zq7, zq5, zq6, zq9, zq8, zq31, zq32, ite_T, ite_F, zq33, zq34, zq35, Nat.reduceEqDiff, len22, len24, fa26_0, fa26_1, fa26_2, len27, len35, fa86_0, fa86_1, fa86_2, fa97_0, fa97_1, fa106_0, fa106_1, fa145_0, fa145_1, fa145_2, fa145_3, fa145_4, len192]
    have H := H.drew
    obtain ⟨hF4, A1, A2⟩ := hF3.up1 hrm hl0 hd0 ⟨hneg, hx6⟩ h6r hset he hor
    have he4 : e = true ↔ zae_ B4 (r.2.drop (m + 1)) ∧ zxf_ B4 (r.2.drop (m + 1)) := by
      rw [he, hF3.made h6r, hF3.nulls h6r, hF4.made h6r, hF4.nulls h6r]
    have hn : 60 + x.toNat < B4.length := by rw [hF4.len]; omega
    have hn' : 60 + r.1.toNat < B4.length := by rw [hF4.len]; omega
    have last : ∀ v : Bool, (v = true ↔ atB B4 (60 + x.toNat) = true ∨ (e = true ∧ atB B4 (60 + r.1.toNat) = true)) → ∀ w16, Apt w w16 [bx b1 (gcs gm Y cy) 26, bx bh ((B4.set (60 + x.toNat) v).map Value.bool) 145, bx b5 (B.map Value.bool) 145, bx b7 [.int .i64 r.1, .slice Z r.2.length cz] 106, bx b8 (S.map Value.bool) 71] →
        ∃ B5 : List Bool, FoOk gm.rules B5 ∧ leB B2 B5 ∧ (∀ z, z < m + 1 → ∀ x rest, r.2.drop z = x :: rest → ¬ x < 0 → FolP gm.rules B B5 r.1.toNat x rest) ∧
          Apt w w16 [bx b1 (gcs gm Y cy) 26, bx bh (B5.map Value.bool) 145, bx b5 (B.map Value.bool) 145, bx b7 [.int .i64 r.1, .slice Z r.2.length cz] 106] := fun v hv w16 H => by
      have g : OrB B4 (60 + x.toNat) [e && atB B4 (60 + r.1.toNat)] 1 (B4.set (60 + x.toNat) v) := by
        refine (OrB.zero B4 (60 + x.toNat) [e && atB B4 (60 + r.1.toNat)]).step (j := 0) hn ?_
        rw [hv]
        show _ ↔ _ ∨ (e && atB B4 (60 + r.1.toNat)) = true
        rw [Bool.and_eq_true]
        exact Iff.rfl
      obtain ⟨hF5, A3⟩ := hF4.up2 (v := v) hrm hl0 hd0 ⟨hneg, hx6⟩ h6r he4 g
      have H := H.erase 4
      simp only [List.eraseIdx_cons_zero, List.eraseIdx_cons_succ] at H
      have hB3 := hle.trans hle3
      refine ⟨_, hF5, hle3.trans (hor.le.trans g.le), fun z hz x' rest hd h0 => ?_, H⟩
      rcases Nat.lt_succ_iff_lt_or_eq.1 hz with hz | rfl
      · exact (hdone3 z hz x' rest hd h0).le (hor.le.trans g.le)
      · rw [hd0] at hd
        injection hd with e1 e2
        subst e1 e2
        refine ⟨fun hma t ht => ?_, fun hnu => ⟨fun t ht => ?_, fun hl => ?_⟩⟩
        · have hb : 0 ≤ t ∧ t < 4 := zih_ ht (fun t => 0 ≤ t ∧ t < 4) (fun r hr x hx h0 => by have := hr44 r hr x hx; omega) (fun y hy h0 => by have := hr44 _ hrm y (List.mem_of_mem_drop hy); omega)
          obtain ⟨c1, c2, c3⟩ := A1 hma t hb ht
          exact ⟨c1, c2, g.le.2 _ c3⟩
        · obtain ⟨c1, c2, c3⟩ := A2 hnu t ⟨ht.1, ht.2.1, hB3.2 _ ht.2.2⟩
          exact ⟨c1, c2, g.le.2 _ c3⟩
        · exact A3 hnu (hor.le.2 _ (hB3.2 _ hl))
    have last : ∀ v : Bool, (v = true ↔ atB B4 (60 + x.toNat) = true ∨ (e = true ∧ atB B4 (60 + r.1.toNat) = true)) → ∀ w16, Apt w w16 [bx b1 (gcs gm Y cy) 26, bx bh ((B4.set (60 + x.toNat) v).map Value.bool) 145, bx b5 (B.map Value.bool) 145, bx b7 [.int .i64 r.1, .slice Z r.2.length cz] 106, bx b8 (S.map Value.bool) 71] → ∀ f', f' 96 = .int .i64 (m : Int) → K f' w16 := fun v hv w16 H f' hf' => hK _ _ ⟨hf', last v hv w16 H⟩
    refine rdi (zvd_ (by omega) hx6) ?_
    rw [zq34, Nat.zero_add]
    refine rdi (ldB4 (H.box 1 rfl) (zwd_ hn)) ?_
    cases h1 : atB B4 (60 + x.toNat)
    case true =>
      repeat (first | refine rdi neq_self ?_ | refine rdi neqb_self ?_ | refine rdi eql_self ?_ | refine rdi eqlb_self ?_ | refine rdi zq1 ?_ | refine rdi zq2 ?_ | refine rdi zq13 ?_ | refine rdi zq14 ?_ | refine rdi zq16 ?_ | refine rdi zq15 ?_ | refine rdi zq17 ?_ | refine rdi zq4 ?_ | refine rdi zq3 ?_ | refine rdi zq27 ?_ | refine rdi bneq ?_ | refine rdi beql ?_ | refine rdi zq29 ?_ | refine rdi zq30 ?_ | refine rdi zq21 ?_ | refine rdi zq22 ?_ | refine rdi zq23 ?_ | refine rdi zq24 ?_ | refine rdi zq25 ?_ | refine rdi zq26 ?_ | refine rdi len27 ?_ | refine rdi len35 ?_)
      refine rdi (zvd_ (by omega) hx6) ?_
      rw [zq34]
      refine zdb_ H 1 rfl sz4 rfl rfl (Nat.ble_eq_true_of_le (by simp; omega)) fun w16 H => ?_
      rw [zbc_ hn] at H
      simp only [List.set_cons_zero, List.set_cons_succ, zq18, zq19, zq20, zq21, zq22, zq23, zq24, zq25, zq26, zq27, zq28, zq4, zq3, zq1, zq2, zq0, zq29, zq30, zq14, zq15, zq16, zq17, zq13, zq10, zq12, zq11, zq7, zq5, zq6, zq9, zq8, zq31, zq32, ite_T, ite_F, zq33, zq34, zq35, Nat.reduceEqDiff, len22, len24, fa26_0, fa26_1, fa26_2, len27, len35, fa86_0, fa86_1, fa86_2, fa97_0, fa97_1, fa106_0, fa106_1, fa145_0, fa145_1, fa145_2, fa145_3, fa145_4, len192] at H ⊢
      exact last true (by rw [h1]; simp) w16 H _ y96
    cases e
    case false =>
      repeat (first | refine rdi neq_self ?_ | refine rdi neqb_self ?_ | refine rdi eql_self ?_ | refine rdi eqlb_self ?_ | refine rdi zq1 ?_ | refine rdi zq2 ?_ | refine rdi zq13 ?_ | refine rdi zq14 ?_ | refine rdi zq16 ?_ | refine rdi zq15 ?_ | refine rdi zq17 ?_ | refine rdi zq4 ?_ | refine rdi zq3 ?_ | refine rdi zq27 ?_ | refine rdi bneq ?_ | refine rdi beql ?_ | refine rdi zq29 ?_ | refine rdi zq30 ?_ | refine rdi zq21 ?_ | refine rdi zq22 ?_ | refine rdi zq23 ?_ | refine rdi zq24 ?_ | refine rdi zq25 ?_ | refine rdi zq26 ?_ | refine rdi len27 ?_ | refine rdi len35 ?_)
      refine rdi (zvd_ (by omega) hx6) ?_
      rw [zq34]
      refine zdb_ H 1 rfl sz4 rfl rfl (Nat.ble_eq_true_of_le (by simp; omega)) fun w16 H => ?_
      rw [zbc_ hn] at H
      simp only [List.set_cons_zero, List.set_cons_succ, zq18, zq19, zq20, zq21, zq22, zq23, zq24, zq25, zq26, zq27, zq28, zq4, zq3, zq1, zq2, zq0, zq29, zq30, zq14, zq15, zq16, zq17, zq13, zq10, zq12, zq11, zq7, zq5, zq6, zq9, zq8, zq31, zq32, ite_T, ite_F, zq33, zq34, zq35, Nat.reduceEqDiff, len22, len24, fa26_0, fa26_1, fa26_2, len27, len35, fa86_0, fa86_1, fa86_2, fa97_0, fa97_1, fa106_0, fa106_1, fa145_0, fa145_1, fa145_2, fa145_3, fa145_4, len192] at H ⊢
      exact last false (by rw [h1]; simp) w16 H _ y96
    repeat (first | refine rdi neq_self ?_ | refine rdi neqb_self ?_ | refine rdi eql_self ?_ | refine rdi eqlb_self ?_ | refine rdi zq1 ?_ | refine rdi zq2 ?_ | refine rdi zq13 ?_ | refine rdi zq14 ?_ | refine rdi zq16 ?_ | refine rdi zq15 ?_ | refine rdi zq17 ?_ | refine rdi zq4 ?_ | refine rdi zq3 ?_ | refine rdi zq27 ?_ | refine rdi bneq ?_ | refine rdi beql ?_ | refine rdi zq29 ?_ | refine rdi zq30 ?_ | refine rdi zq21 ?_ | refine rdi zq22 ?_ | refine rdi zq23 ?_ | refine rdi zq24 ?_ | refine rdi zq25 ?_ | refine rdi zq26 ?_ | refine rdi len27 ?_ | refine rdi len35 ?_)
    refine rdi (ldB3 (H.box 3 rfl) rfl) ?_
    repeat (first | refine rdi neq_self ?_ | refine rdi neqb_self ?_ | refine rdi eql_self ?_ | refine rdi eqlb_self ?_ | refine rdi zq1 ?_ | refine rdi zq2 ?_ | refine rdi zq13 ?_ | refine rdi zq14 ?_ | refine rdi zq16 ?_ | refine rdi zq15 ?_ | refine rdi zq17 ?_ | refine rdi zq4 ?_ | refine rdi zq3 ?_ | refine rdi zq27 ?_ | refine rdi bneq ?_ | refine rdi beql ?_ | refine rdi zq29 ?_ | refine rdi zq30 ?_ | refine rdi zq21 ?_ | refine rdi zq22 ?_ | refine rdi zq23 ?_ | refine rdi zq24 ?_ | refine rdi zq25 ?_ | refine rdi zq26 ?_ | refine rdi len27 ?_ | refine rdi len35 ?_)
    refine rdi zq0 ?_
    repeat (first | refine rdi neq_self ?_ | refine rdi neqb_self ?_ | refine rdi eql_self ?_ | refine rdi eqlb_self ?_ | refine rdi zq1 ?_ | refine rdi zq2 ?_ | refine rdi zq13 ?_ | refine rdi zq14 ?_ | refine rdi zq16 ?_ | refine rdi zq15 ?_ | refine rdi zq17 ?_ | refine rdi zq4 ?_ | refine rdi zq3 ?_ | refine rdi zq27 ?_ | refine rdi bneq ?_ | refine rdi beql ?_ | refine rdi zq29 ?_ | refine rdi zq30 ?_ | refine rdi zq21 ?_ | refine rdi zq22 ?_ | refine rdi zq23 ?_ | refine rdi zq24 ?_ | refine rdi zq25 ?_ | refine rdi zq26 ?_ | refine rdi len27 ?_ | refine rdi len35 ?_)
    refine rdi fa145_4 ?_
    repeat (first | refine rdi neq_self ?_ | refine rdi neqb_self ?_ | refine rdi eql_self ?_ | refine rdi eqlb_self ?_ | refine rdi zq1 ?_ | refine rdi zq2 ?_ | refine rdi zq13 ?_ | refine rdi zq14 ?_ | refine rdi zq16 ?_ | refine rdi zq15 ?_ | refine rdi zq17 ?_ | refine rdi zq4 ?_ | refine rdi zq3 ?_ | refine rdi zq27 ?_ | refine rdi bneq ?_ | refine rdi beql ?_ | refine rdi zq29 ?_ | refine rdi zq30 ?_ | refine rdi zq21 ?_ | refine rdi zq22 ?_ | refine rdi zq23 ?_ | refine rdi zq24 ?_ | refine rdi zq25 ?_ | refine rdi zq26 ?_ | refine rdi len27 ?_ | refine rdi len35 ?_)
    refine rdi (zvd_ (by omega) hl0.2) ?_
    repeat (first | refine rdi neq_self ?_ | refine rdi neqb_self ?_ | refine rdi eql_self ?_ | refine rdi eqlb_self ?_ | refine rdi zq1 ?_ | refine rdi zq2 ?_ | refine rdi zq13 ?_ | refine rdi zq14 ?_ | refine rdi zq16 ?_ | refine rdi zq15 ?_ | refine rdi zq17 ?_ | refine rdi zq4 ?_ | refine rdi zq3 ?_ | refine rdi zq27 ?_ | refine rdi bneq ?_ | refine rdi beql ?_ | refine rdi zq29 ?_ | refine rdi zq30 ?_ | refine rdi zq21 ?_ | refine rdi zq22 ?_ | refine rdi zq23 ?_ | refine rdi zq24 ?_ | refine rdi zq25 ?_ | refine rdi zq26 ?_ | refine rdi len27 ?_ | refine rdi len35 ?_)
    rw [zq34, zq34, Nat.zero_add]
    refine rdi (ldB4 (H.box 1 rfl) (zwd_ hn')) ?_
    cases h3 : atB B4 (60 + r.1.toNat)
    · repeat (first | refine rdi neq_self ?_ | refine rdi neqb_self ?_ | refine rdi eql_self ?_ | refine rdi eqlb_self ?_ | refine rdi zq1 ?_ | refine rdi zq2 ?_ | refine rdi zq13 ?_ | refine rdi zq14 ?_ | refine rdi zq16 ?_ | refine rdi zq15 ?_ | refine rdi zq17 ?_ | refine rdi zq4 ?_ | refine rdi zq3 ?_ | refine rdi zq27 ?_ | refine rdi bneq ?_ | refine rdi beql ?_ | refine rdi zq29 ?_ | refine rdi zq30 ?_ | refine rdi zq21 ?_ | refine rdi zq22 ?_ | refine rdi zq23 ?_ | refine rdi zq24 ?_ | refine rdi zq25 ?_ | refine rdi zq26 ?_ | refine rdi len27 ?_ | refine rdi len35 ?_)
      refine rdi (zvd_ (by omega) hx6) ?_
      rw [zq34]
      refine zdb_ H 1 rfl sz4 rfl rfl (Nat.ble_eq_true_of_le (by simp; omega)) fun w16 H => ?_
      rw [zbc_ hn] at H
      simp only [List.set_cons_zero, List.set_cons_succ, zq18, zq19, zq20, zq21, zq22, zq23, zq24, zq25, zq26, zq27, zq28, zq4, zq3, zq1, zq2, zq0, zq29, zq30, zq14, zq15, zq16, zq17, zq13, zq10, zq12, zq11, zq7, zq5, zq6, zq9, zq8, zq31, zq32, ite_T, ite_F, zq33, zq34, zq35, Nat.reduceEqDiff, len22, len24, fa26_0, fa26_1, fa26_2, len27, len35, fa86_0, fa86_1, fa86_2, fa97_0, fa97_1, fa106_0, fa106_1, fa145_0, fa145_1, fa145_2, fa145_3, fa145_4, len192] at H ⊢
      exact last false (by rw [h1, h3]; simp) w16 H _ y96
    · repeat (first | refine rdi neq_self ?_ | refine rdi neqb_self ?_ | refine rdi eql_self ?_ | refine rdi eqlb_self ?_ | refine rdi zq1 ?_ | refine rdi zq2 ?_ | refine rdi zq13 ?_ | refine rdi zq14 ?_ | refine rdi zq16 ?_ | refine rdi zq15 ?_ | refine rdi zq17 ?_ | refine rdi zq4 ?_ | refine rdi zq3 ?_ | refine rdi zq27 ?_ | refine rdi bneq ?_ | refine rdi beql ?_ | refine rdi zq29 ?_ | refine rdi zq30 ?_ | refine rdi zq21 ?_ | refine rdi zq22 ?_ | refine rdi zq23 ?_ | refine rdi zq24 ?_ | refine rdi zq25 ?_ | refine rdi zq26 ?_ | refine rdi len27 ?_ | refine rdi len35 ?_)
      refine rdi (zvd_ (by omega) hx6) ?_
      rw [zq34]
      refine zdb_ H 1 rfl sz4 rfl rfl (Nat.ble_eq_true_of_le (by simp; omega)) fun w16 H => ?_
      rw [zbc_ hn] at H
      simp only [List.set_cons_zero, List.set_cons_succ, zq18, zq19, zq20, zq21, zq22, zq23, zq24, zq25, zq26, zq27, zq28, zq4, zq3, zq1, zq2, zq0, zq29, zq30, zq14, zq15, zq16, zq17, zq13, zq10, zq12, zq11, zq7, zq5, zq6, zq9, zq8, zq31, zq32, ite_T, ite_F, zq33, zq34, zq35, Nat.reduceEqDiff, len22, len24, fa26_0, fa26_1, fa26_2, len27, len35, fa86_0, fa86_1, fa86_2, fa97_0, fa97_1, fa106_0, fa106_1, fa145_0, fa145_1, fa145_2, fa145_3, fa145_4, len192] at H ⊢
      exact last true (by rw [h3]; simp) w16 H _ y96
  simp only [show ((j : Int) < 4) from by omega, decide_true, zq18, zq19, zq20, zq21, zq22, zq23, zq24, zq25, zq26, zq27, zq28, zq4, zq3, zq1, zq2, zq0, zq29, zq30, zq14, zq15, zq16, zq17, zq13, zq10, zq12, zq11, zq7, zq5, zq6, zq9, zq8, zq31, zq32, ite_T, ite_F, zq33, zq34, zq35, Nat.reduceEqDiff, len22, len24, fa26_0, fa26_1, fa26_2, len27, len35, fa86_0, fa86_1, fa86_2, fa97_0, fa97_1, fa106_0, fa106_1, fa145_0, fa145_1, fa145_2, fa145_3, fa145_4, len192]
  rw [zdh_ hS hjl]
  have H := H.drew
  refine rdi (zbe_ (by omega) hx6) ?_
  refine rdi (zrd_ (by omega) (by omega)) ?_
  rw [zq34, zq34, Nat.zero_add, Int.toNat_natCast]
  have hn : 36 + x.toNat * 4 + j < B4.length := by rw [hor.len, hF3.len]; omega
  rw [ldB4 (H.box 1 rfl) (zwd_ hn)]
  have hb34 : atB B4 (36 + r.1.toNat * 4 + j) = true ↔ atB B3 (36 + r.1.toNat * 4 + j) = true := by
    rw [hor.cell]
    exact ⟨fun h => h.elim id fun ⟨t, h1, h2, _⟩ => by omega, .inl⟩
  have hs1 : atB ((List.range 4).map fun t => atB S t || (e && atB B3 (36 + r.1.toNat * 4 + t))) j = true ↔ atB S j = true ∨ (e = true ∧ atB B4 (36 + r.1.toNat * 4 + j) = true) := by
    rw [hb34]
    unfold atB
    rw [List.getD_eq_getElem?_getD, List.getElem?_map, List.getElem?_range hjl]
    simp
  have fin : ∀ v : Bool, (v = true ↔ atB B4 (36 + x.toNat * 4 + j) = true ∨ atB S j = true ∨ (e = true ∧ atB B4 (36 + r.1.toNat * 4 + j) = true)) → ∀ w16, Apt w w16 [bx b1 (gcs gm Y cy) 26, bx bh ((B4.set (36 + x.toNat * 4 + j) v).map Value.bool) 145, bx b5 (B.map Value.bool) 145, bx b7 [.int .i64 r.1, .slice Z r.2.length cz] 106, bx b8 (S.map Value.bool) 71] →
      ∃ B5 : List Bool, OrB B3 (36 + x.toNat * 4) ((List.range 4).map fun t => atB S t || (e && atB B3 (36 + r.1.toNat * 4 + t))) (j + 1) B5 ∧ Apt w w16 [bx b1 (gcs gm Y cy) 26, bx bh (B5.map Value.bool) 145, bx b5 (B.map Value.bool) 145, bx b7 [.int .i64 r.1, .slice Z r.2.length cz] 106, bx b8 (S.map Value.bool) 71] := fun v hv w16 H => ⟨_, hor.step hn (by rw [hv, hs1]), H⟩
  cases h1 : atB B4 (36 + x.toNat * 4 + j)
  case true =>
    simp only [zq18, zq19, zq20, zq21, zq22, zq23, zq24, zq25, zq26, zq27, zq28, zq4, zq3, zq1, zq2, zq0, zq29, zq30, zq14, zq15, zq16, zq17, zq13, zq10, zq12, zq11, zq7, zq5, zq6, zq9, zq8, zq31, zq32, ite_T, ite_F, zq33, zq34, zq35, Nat.reduceEqDiff, len22, len24, fa26_0, fa26_1, fa26_2, len27, len35, fa86_0, fa86_1, fa86_2, fa97_0, fa97_1, fa106_0, fa106_1, fa145_0, fa145_1, fa145_2, fa145_3, fa145_4, len192]
    refine rdi (zbe_ (by omega) hx6) ?_
    refine rdi (zrd_ (by omega) (by omega)) ?_
    rw [zq34, zq34, Int.toNat_natCast]
    refine zdb_ H 1 rfl sz4 rfl rfl (Nat.ble_eq_true_of_le (by simp; omega)) fun w16 H => ?_
    rw [zbc_ hn] at H
    simp only [List.set_cons_zero, List.set_cons_succ, zq18, zq19, zq20, zq21, zq22, zq23, zq24, zq25, zq26, zq27, zq28, zq4, zq3, zq1, zq2, zq0, zq29, zq30, zq14, zq15, zq16, zq17, zq13, zq10, zq12, zq11, zq7, zq5, zq6, zq9, zq8, zq31, zq32, ite_T, ite_F, zq33, zq34, zq35, Nat.reduceEqDiff, len22, len24, fa26_0, fa26_1, fa26_2, len27, len35, fa86_0, fa86_1, fa86_2, fa97_0, fa97_1, fa106_0, fa106_1, fa145_0, fa145_1, fa145_2, fa145_3, fa145_4, len192] at H ⊢
    rw [zm_ (by omega) (by omega)]
    exact hN4 _ _ hjl ⟨by omega, rfl, fin true (by rw [h1]; simp) w16 H⟩
  cases h2 : atB S j
  case true =>
    repeat (first | refine rdi neq_self ?_ | refine rdi neqb_self ?_ | refine rdi eql_self ?_ | refine rdi eqlb_self ?_ | refine rdi zq1 ?_ | refine rdi zq2 ?_ | refine rdi zq13 ?_ | refine rdi zq14 ?_ | refine rdi zq16 ?_ | refine rdi zq15 ?_ | refine rdi zq17 ?_ | refine rdi zq4 ?_ | refine rdi zq3 ?_ | refine rdi zq27 ?_ | refine rdi bneq ?_ | refine rdi beql ?_ | refine rdi zq29 ?_ | refine rdi zq30 ?_ | refine rdi zq21 ?_ | refine rdi zq22 ?_ | refine rdi zq23 ?_ | refine rdi zq24 ?_ | refine rdi zq25 ?_ | refine rdi zq26 ?_ | refine rdi len27 ?_ | refine rdi len35 ?_)
    refine rdi (zbe_ (by omega) hx6) ?_
    refine rdi (zrd_ (by omega) (by omega)) ?_
    rw [zq34, zq34, Int.toNat_natCast]
    refine zdb_ H 1 rfl sz4 rfl rfl (Nat.ble_eq_true_of_le (by simp; omega)) fun w16 H => ?_
    rw [zbc_ hn] at H
    simp only [List.set_cons_zero, List.set_cons_succ, zq18, zq19, zq20, zq21, zq22, zq23, zq24, zq25, zq26, zq27, zq28, zq4, zq3, zq1, zq2, zq0, zq29, zq30, zq14, zq15, zq16, zq17, zq13, zq10, zq12, zq11, zq7, zq5, zq6, zq9, zq8, zq31, zq32, ite_T, ite_F, zq33, zq34, zq35, Nat.reduceEqDiff, len22, len24, fa26_0, fa26_1, fa26_2, len27, len35, fa86_0, fa86_1, fa86_2, fa97_0, fa97_1, fa106_0, fa106_1, fa145_0, fa145_1, fa145_2, fa145_3, fa145_4, len192] at H ⊢
    rw [zm_ (by omega) (by omega)]
    exact hN4 _ _ hjl ⟨by omega, rfl, fin true (by rw [h2]; simp) w16 H⟩
  cases e
  case false =>
    repeat (first | refine rdi neq_self ?_ | refine rdi neqb_self ?_ | refine rdi eql_self ?_ | refine rdi eqlb_self ?_ | refine rdi zq1 ?_ | refine rdi zq2 ?_ | refine rdi zq13 ?_ | refine rdi zq14 ?_ | refine rdi zq16 ?_ | refine rdi zq15 ?_ | refine rdi zq17 ?_ | refine rdi zq4 ?_ | refine rdi zq3 ?_ | refine rdi zq27 ?_ | refine rdi bneq ?_ | refine rdi beql ?_ | refine rdi zq29 ?_ | refine rdi zq30 ?_ | refine rdi zq21 ?_ | refine rdi zq22 ?_ | refine rdi zq23 ?_ | refine rdi zq24 ?_ | refine rdi zq25 ?_ | refine rdi zq26 ?_ | refine rdi len27 ?_ | refine rdi len35 ?_)
    refine rdi (zbe_ (by omega) hx6) ?_
    refine rdi (zrd_ (by omega) (by omega)) ?_
    rw [zq34, zq34, Int.toNat_natCast]
    refine zdb_ H 1 rfl sz4 rfl rfl (Nat.ble_eq_true_of_le (by simp; omega)) fun w16 H => ?_
    rw [zbc_ hn] at H
    simp only [List.set_cons_zero, List.set_cons_succ, zq18, zq19, zq20, zq21, zq22, zq23, zq24, zq25, zq26, zq27, zq28, zq4, zq3, zq1, zq2, zq0, zq29, zq30, zq14, zq15, zq16, zq17, zq13, zq10, zq12, zq11, zq7, zq5, zq6, zq9, zq8, zq31, zq32, ite_T, ite_F, zq33, zq34, zq35, Nat.reduceEqDiff, len22, len24, fa26_0, fa26_1, fa26_2, len27, len35, fa86_0, fa86_1, fa86_2, fa97_0, fa97_1, fa106_0, fa106_1, fa145_0, fa145_1, fa145_2, fa145_3, fa145_4, len192] at H ⊢
    rw [zm_ (by omega) (by omega)]
    exact hN4 _ _ hjl ⟨by omega, rfl, fin false (by rw [h1, h2]; simp) w16 H⟩
  repeat (first | refine rdi neq_self ?_ | refine rdi neqb_self ?_ | refine rdi eql_self ?_ | refine rdi eqlb_self ?_ | refine rdi zq1 ?_ | refine rdi zq2 ?_ | refine rdi zq13 ?_ | refine rdi zq14 ?_ | refine rdi zq16 ?_ | refine rdi zq15 ?_ | refine rdi zq17 ?_ | refine rdi zq4 ?_ | refine rdi zq3 ?_ | refine rdi zq27 ?_ | refine rdi bneq ?_ | refine rdi beql ?_ | refine rdi zq29 ?_ | refine rdi zq30 ?_ | refine rdi zq21 ?_ | refine rdi zq22 ?_ | refine rdi zq23 ?_ | refine rdi zq24 ?_ | refine rdi zq25 ?_ | refine rdi zq26 ?_ | refine rdi len27 ?_ | refine rdi len35 ?_)
  refine rdi (ldB3 (H.box 3 rfl) rfl) ?_
  repeat (first | refine rdi neq_self ?_ | refine rdi neqb_self ?_ | refine rdi eql_self ?_ | refine rdi eqlb_self ?_ | refine rdi zq1 ?_ | refine rdi zq2 ?_ | refine rdi zq13 ?_ | refine rdi zq14 ?_ | refine rdi zq16 ?_ | refine rdi zq15 ?_ | refine rdi zq17 ?_ | refine rdi zq4 ?_ | refine rdi zq3 ?_ | refine rdi zq27 ?_ | refine rdi bneq ?_ | refine rdi beql ?_ | refine rdi zq29 ?_ | refine rdi zq30 ?_ | refine rdi zq21 ?_ | refine rdi zq22 ?_ | refine rdi zq23 ?_ | refine rdi zq24 ?_ | refine rdi zq25 ?_ | refine rdi zq26 ?_ | refine rdi len27 ?_ | refine rdi len35 ?_)
  refine rdi zq0 ?_
  repeat (first | refine rdi neq_self ?_ | refine rdi neqb_self ?_ | refine rdi eql_self ?_ | refine rdi eqlb_self ?_ | refine rdi zq1 ?_ | refine rdi zq2 ?_ | refine rdi zq13 ?_ | refine rdi zq14 ?_ | refine rdi zq16 ?_ | refine rdi zq15 ?_ | refine rdi zq17 ?_ | refine rdi zq4 ?_ | refine rdi zq3 ?_ | refine rdi zq27 ?_ | refine rdi bneq ?_ | refine rdi beql ?_ | refine rdi zq29 ?_ | refine rdi zq30 ?_ | refine rdi zq21 ?_ | refine rdi zq22 ?_ | refine rdi zq23 ?_ | refine rdi zq24 ?_ | refine rdi zq25 ?_ | refine rdi zq26 ?_ | refine rdi len27 ?_ | refine rdi len35 ?_)
  refine rdi fa145_3 ?_
  repeat (first | refine rdi neq_self ?_ | refine rdi neqb_self ?_ | refine rdi eql_self ?_ | refine rdi eqlb_self ?_ | refine rdi zq1 ?_ | refine rdi zq2 ?_ | refine rdi zq13 ?_ | refine rdi zq14 ?_ | refine rdi zq16 ?_ | refine rdi zq15 ?_ | refine rdi zq17 ?_ | refine rdi zq4 ?_ | refine rdi zq3 ?_ | refine rdi zq27 ?_ | refine rdi bneq ?_ | refine rdi beql ?_ | refine rdi zq29 ?_ | refine rdi zq30 ?_ | refine rdi zq21 ?_ | refine rdi zq22 ?_ | refine rdi zq23 ?_ | refine rdi zq24 ?_ | refine rdi zq25 ?_ | refine rdi zq26 ?_ | refine rdi len27 ?_ | refine rdi len35 ?_)
  refine rdi (zbe_ (by omega) hl0.2) ?_
  repeat (first | refine rdi neq_self ?_ | refine rdi neqb_self ?_ | refine rdi eql_self ?_ | refine rdi eqlb_self ?_ | refine rdi zq1 ?_ | refine rdi zq2 ?_ | refine rdi zq13 ?_ | refine rdi zq14 ?_ | refine rdi zq16 ?_ | refine rdi zq15 ?_ | refine rdi zq17 ?_ | refine rdi zq4 ?_ | refine rdi zq3 ?_ | refine rdi zq27 ?_ | refine rdi bneq ?_ | refine rdi beql ?_ | refine rdi zq29 ?_ | refine rdi zq30 ?_ | refine rdi zq21 ?_ | refine rdi zq22 ?_ | refine rdi zq23 ?_ | refine rdi zq24 ?_ | refine rdi zq25 ?_ | refine rdi zq26 ?_ | refine rdi len27 ?_ | refine rdi len35 ?_)
  refine rdi (zrd_ (by omega) (by omega)) ?_
  repeat (first | refine rdi neq_self ?_ | refine rdi neqb_self ?_ | refine rdi eql_self ?_ | refine rdi eqlb_self ?_ | refine rdi zq1 ?_ | refine rdi zq2 ?_ | refine rdi zq13 ?_ | refine rdi zq14 ?_ | refine rdi zq16 ?_ | refine rdi zq15 ?_ | refine rdi zq17 ?_ | refine rdi zq4 ?_ | refine rdi zq3 ?_ | refine rdi zq27 ?_ | refine rdi bneq ?_ | refine rdi beql ?_ | refine rdi zq29 ?_ | refine rdi zq30 ?_ | refine rdi zq21 ?_ | refine rdi zq22 ?_ | refine rdi zq23 ?_ | refine rdi zq24 ?_ | refine rdi zq25 ?_ | refine rdi zq26 ?_ | refine rdi len27 ?_ | refine rdi len35 ?_)
  rw [zq34, zq34, Int.toNat_natCast]
  have hn' : 36 + r.1.toNat * 4 + j < B4.length := by rw [hor.len, hF3.len]; omega
  rw [zq34, Nat.zero_add]
  refine rdi (ldB4 (H.box 1 rfl) (zwd_ hn')) ?_
  cases h3 : atB B4 (36 + r.1.toNat * 4 + j)
  · repeat (first | refine rdi neq_self ?_ | refine rdi neqb_self ?_ | refine rdi eql_self ?_ | refine rdi eqlb_self ?_ | refine rdi zq1 ?_ | refine rdi zq2 ?_ | refine rdi zq13 ?_ | refine rdi zq14 ?_ | refine rdi zq16 ?_ | refine rdi zq15 ?_ | refine rdi zq17 ?_ | refine rdi zq4 ?_ | refine rdi zq3 ?_ | refine rdi zq27 ?_ | refine rdi bneq ?_ | refine rdi beql ?_ | refine rdi zq29 ?_ | refine rdi zq30 ?_ | refine rdi zq21 ?_ | refine rdi zq22 ?_ | refine rdi zq23 ?_ | refine rdi zq24 ?_ | refine rdi zq25 ?_ | refine rdi zq26 ?_ | refine rdi len27 ?_ | refine rdi len35 ?_)
    refine rdi (zbe_ (by omega) hx6) ?_
    refine rdi (zrd_ (by omega) (by omega)) ?_
    rw [zq34, zq34, Int.toNat_natCast]
    refine zdb_ H 1 rfl sz4 rfl rfl (Nat.ble_eq_true_of_le (by simp; omega)) fun w16 H => ?_
    rw [zbc_ hn] at H
    simp only [List.set_cons_zero, List.set_cons_succ, zq18, zq19, zq20, zq21, zq22, zq23, zq24, zq25, zq26, zq27, zq28, zq4, zq3, zq1, zq2, zq0, zq29, zq30, zq14, zq15, zq16, zq17, zq13, zq10, zq12, zq11, zq7, zq5, zq6, zq9, zq8, zq31, zq32, ite_T, ite_F, zq33, zq34, zq35, Nat.reduceEqDiff, len22, len24, fa26_0, fa26_1, fa26_2, len27, len35, fa86_0, fa86_1, fa86_2, fa97_0, fa97_1, fa106_0, fa106_1, fa145_0, fa145_1, fa145_2, fa145_3, fa145_4, len192] at H ⊢
    rw [zm_ (by omega) (by omega)]
    exact hN4 _ _ hjl ⟨by omega, rfl, fin false (by rw [h1, h2, h3]; simp) w16 H⟩
  · repeat (first | refine rdi neq_self ?_ | refine rdi neqb_self ?_ | refine rdi eql_self ?_ | refine rdi eqlb_self ?_ | refine rdi zq1 ?_ | refine rdi zq2 ?_ | refine rdi zq13 ?_ | refine rdi zq14 ?_ | refine rdi zq16 ?_ | refine rdi zq15 ?_ | refine rdi zq17 ?_ | refine rdi zq4 ?_ | refine rdi zq3 ?_ | refine rdi zq27 ?_ | refine rdi bneq ?_ | refine rdi beql ?_ | refine rdi zq29 ?_ | refine rdi zq30 ?_ | refine rdi zq21 ?_ | refine rdi zq22 ?_ | refine rdi zq23 ?_ | refine rdi zq24 ?_ | refine rdi zq25 ?_ | refine rdi zq26 ?_ | refine rdi len27 ?_ | refine rdi len35 ?_)
    refine rdi (zbe_ (by omega) hx6) ?_
    refine rdi (zrd_ (by omega) (by omega)) ?_
    rw [zq34, zq34, Int.toNat_natCast]
    refine zdb_ H 1 rfl sz4 rfl rfl (Nat.ble_eq_true_of_le (by simp; omega)) fun w16 H => ?_
    rw [zbc_ hn] at H
    simp only [List.set_cons_zero, List.set_cons_succ, zq18, zq19, zq20, zq21, zq22, zq23, zq24, zq25, zq26, zq27, zq28, zq4, zq3, zq1, zq2, zq0, zq29, zq30, zq14, zq15, zq16, zq17, zq13, zq10, zq12, zq11, zq7, zq5, zq6, zq9, zq8, zq31, zq32, ite_T, ite_F, zq33, zq34, zq35, Nat.reduceEqDiff, len22, len24, fa26_0, fa26_1, fa26_2, len27, len35, fa86_0, fa86_1, fa86_2, fa97_0, fa97_1, fa106_0, fa106_1, fa145_0, fa145_1, fa145_2, fa145_3, fa145_4, len192] at H ⊢
    rw [zm_ (by omega) (by omega)]
    exact hN4 _ _ hjl ⟨by omega, rfl, fin true (by rw [h3]; simp) w16 H⟩
end
end Go.Proofs.Yteabbgaffgpegaa

namespace Go.Sh
open Go
theorem setL_none {n : Nat} {P : Nat → Prop} (h : ∀ a, a < n → ¬ P a) : setL n P = [] := by
  cases e : setL n P with
  | nil => rfl
  | cons x xs =>
    have : x ∈ setL n P := by rw [e]; exact List.mem_cons_self ..
    obtain ⟨a, rfl, h1, h2⟩ := setL_mem.1 this
    exact absurd h2 (h a h1)
theorem begV_tok {gm : Gram} {xs : List Int} {S : List Bool} {Q : Prop} (ht : gm.toks ≤ 4) (hs : ∀ x ∈ xs, -gm.toks ≤ x) (hr : ∀ r ∈ gm.rules, ∀ x ∈ r.2, -gm.toks ≤ x)
    (h : ∀ t : Nat, t < 4 → (atB S t = true ↔ Made gm.rules xs ∧ Fst gm.rules (.inr xs) t)) : setL 4 (fun n => atB S n = true) = begV gm xs := by
  unfold begV
  split
  · rename_i hm
    refine setL_same fun a => ?_
    constructor
    · rintro ⟨h1, h2⟩
      have h3 := ((h a h1).1 h2).2
      have := zih_ h3 (fun t => 0 ≤ t ∧ t < gm.toks) (fun r h1 x h2 h3 => by have := hr r h1 x h2; omega) (fun x h2 h3 => by have := hs x h2; omega)
      exact ⟨by omega, h3⟩
    · rintro ⟨h1, h2⟩
      exact ⟨by omega, (h a (by omega)).2 ⟨hm, h2⟩⟩
  · rename_i hm
    exact setL_none fun a ha hc => hm ((h a ha).1 hc).1
open Classical in
theorem nulV_iff {gm : Gram} {xs : List Int} : nulV gm xs = true ↔ Nulls gm.rules xs := by
  unfold nulV
  rw [decide_eq_true_eq]
end Go.Sh
namespace Go.Proofs.Yteabbgaffgpegaa
open Go Go.Sh Go.RowKit
theorem zwi_ (w : World) : Ints w none [] := Own.ints (show Own 3 w w.heap.size none 0 [] from Row.nil _ _ _ _)
section
variable {w : World} {k : Value → World → Prop} {Y X : Option Addr} {cy cx : Nat} {gm : Gram} {xs : List Int}
theorem tokensOf_c {A : List Bool} (hlen : A.length = 4) (hk : ∀ w' X c, Gr w w' → kI X (setL 4 fun n => atB A n = true) c w' → k (.slice X (setL 4 fun n => atB A n = true).length c) w') :
    CallK Try.prog 48 [arrB A] k w := by
  refine enter48 ?_
  unfold S48
  have H := Apt.nil w
  refine boxH H fun b1 w1 H => ?_
  rw [List.nil_append, zkf_] at H
  refine buildH H u27 inf3 [] (by decide) (by decide) (by simp [Instr.fill, madeCells]) rfl fun b3 w2 H => ?_
  simp only [List.cons_append, List.nil_append] at H
  rw [zw_ agg71 sz71 (by simp [hlen]) (H.box 0 rfl)]
  refine zhb_ 4 0 (fun i f w' => i ≤ 4 ∧ f 8 = .int .i64 (i : Int) ∧ ∃ X c, f 3 = .slice X (setL i fun n => atB A n = true).length c ∧ Apt w w' [bx b1 (A.map Value.bool) 71, ows X c (setL i fun n => atB A n = true)])
    ⟨by omega, rfl, _, _, rfl, H⟩ ?_
  clear H
  rintro i f w3 N hag ⟨hi, f8, X, c, f3, H⟩ hN
  have f7 : f 7 = arrB A := hag 7 (by decide)
  simp only [f3, f7, f8, zq18, zq19, zq20, zq21, zq22, zq23, zq24, zq25, zq26, zq27, zq28, zq4, zq3, zq1, zq2, zq0, zq29, zq30, zq14, zq15, zq16, zq17, zq13, zq10, zq12, zq11, zq7, zq5, zq6, zq9, zq8, zq31, zq32, ite_T, ite_F, zq33, zq34, zq35, Nat.reduceEqDiff, len22, len24, fa26_0, fa26_1, fa26_2, len27, len35, fa86_0, fa86_1, fa86_2, fa97_0, fa97_1, fa106_0, fa106_1, fa145_0, fa145_1, fa145_2, fa145_3, fa145_4, len192]
  by_cases hlt : i < 4
  case neg =>
    simp only [show ¬ ((i : Int) < 4) from by omega, decide_false, f3, zq18, zq19, zq20, zq21, zq22, zq23, zq24, zq25, zq26, zq27, zq28, zq4, zq3, zq1, zq2, zq0, zq29, zq30, zq14, zq15, zq16, zq17, zq13, zq10, zq12, zq11, zq7, zq5, zq6, zq9, zq8, zq31, zq32, ite_T, ite_F, zq33, zq34, zq35, Nat.reduceEqDiff, len22, len24, fa26_0, fa26_1, fa26_2, len27, len35, fa86_0, fa86_1, fa86_2, fa97_0, fa97_1, fa106_0, fa106_1, fa145_0, fa145_1, fa145_2, fa145_3, fa145_4, len192]
    have e : i = 4 := by omega
    subst e
    exact hk w3 X c H.gr ⟨H.ints 1 rfl, (H.row 1 rfl).cap.1⟩
  simp only [show ((i : Int) < 4) from by omega, decide_true, zq18, zq19, zq20, zq21, zq22, zq23, zq24, zq25, zq26, zq27, zq28, zq4, zq3, zq1, zq2, zq0, zq29, zq30, zq14, zq15, zq16, zq17, zq13, zq10, zq12, zq11, zq7, zq5, zq6, zq9, zq8, zq31, zq32, ite_T, ite_F, zq33, zq34, zq35, Nat.reduceEqDiff, len22, len24, fa26_0, fa26_1, fa26_2, len27, len35, fa86_0, fa86_1, fa86_2, fa97_0, fa97_1, fa106_0, fa106_1, fa145_0, fa145_1, fa145_2, fa145_3, fa145_4, len192]
  refine zed_ (fun f w' => f 8 = .int .i64 (i : Int) ∧ ∃ X c, f 3 = .slice X (setL (i + 1) fun n => atB A n = true).length c ∧ Apt w w' [bx b1 (A.map Value.bool) 71, ows X c (setL (i + 1) fun n => atB A n = true)]) (fun K hK => ?_) ?_
  · rw [zdh_ hlen hlt]
    cases ha : atB A i
    · simp only [zq18, zq19, zq20, zq21, zq22, zq23, zq24, zq25, zq26, zq27, zq28, zq4, zq3, zq1, zq2, zq0, zq29, zq30, zq14, zq15, zq16, zq17, zq13, zq10, zq12, zq11, zq7, zq5, zq6, zq9, zq8, zq31, zq32, ite_T, ite_F, zq33, zq34, zq35, Nat.reduceEqDiff, len22, len24, fa26_0, fa26_1, fa26_2, len27, len35, fa86_0, fa86_1, fa86_2, fa97_0, fa97_1, fa106_0, fa106_1, fa145_0, fa145_1, fa145_2, fa145_3, fa145_4, len192]
      have e := (zep_ (i := i) (P := fun n => atB A n = true)).2 (by rw [ha]; decide)
      exact hK _ _ ⟨f8, X, c, by rw [e]; exact f3, by rw [e]; exact H⟩
    · simp only [zq18, zq19, zq20, zq21, zq22, zq23, zq24, zq25, zq26, zq27, zq28, zq4, zq3, zq1, zq2, zq0, zq29, zq30, zq14, zq15, zq16, zq17, zq13, zq10, zq12, zq11, zq7, zq5, zq6, zq9, zq8, zq31, zq32, ite_T, ite_F, zq33, zq34, zq35, Nat.reduceEqDiff, len22, len24, fa26_0, fa26_1, fa26_2, len27, len35, fa86_0, fa86_1, fa86_2, fa97_0, fa97_1, fa106_0, fa106_1, fa145_0, fa145_1, fa145_2, fa145_3, fa145_4, len192]
      have e := (zep_ (i := i) (P := fun n => atB A n = true)).1 ha
      have hl := setL_len i fun n => atB A n = true
      refine pushH H 1 rfl rfl (by omega) fun t X2 c2 w4 H => ?_
      rw [← e] at H ⊢
      simp only [List.set_cons_zero, List.set_cons_succ] at H
      exact hK _ _ ⟨f8, X2, c2, rfl, H⟩
  clear H
  rintro f w4 ⟨f8, h⟩
  simp only [f8, zq18, zq19, zq20, zq21, zq22, zq23, zq24, zq25, zq26, zq27, zq28, zq4, zq3, zq1, zq2, zq0, zq29, zq30, zq14, zq15, zq16, zq17, zq13, zq10, zq12, zq11, zq7, zq5, zq6, zq9, zq8, zq31, zq32, ite_T, ite_F, zq33, zq34, zq35, Nat.reduceEqDiff, len22, len24, fa26_0, fa26_1, fa26_2, len27, len35, fa86_0, fa86_1, fa86_2, fa97_0, fa97_1, fa106_0, fa106_1, fa145_0, fa145_1, fa145_2, fa145_3, fa145_4, len192]
  rw [zm_ (by omega) (by omega)]
  exact hN _ _ hlt ⟨by omega, rfl, h⟩
theorem zbi_ (hG : kG Y cy gm.rules w) (hX : kI X xs cx w) (hk : ∀ w' U d, Gr w w' → kI U (firV gm xs).1 d w' → k (.tuple #[.slice U (firV gm xs).1.length d, .bool (firV gm xs).2.1, .bool (firV gm xs).2.2]) w') :
    CallK Try.prog 9 [grv gm Y cy, .slice X xs.length cx] k w := by
  refine enter9 ?_
  unfold S9
  have H := ((Kn.nil w).addG hG.1 hG.2).addI hX.1 hX.2
  refine zub_ fun b1 w1 g1 hb B1 => ?_
  have H := (H.step g1).addB B1
  simp only [List.cons_append, List.nil_append] at H
  rw [zw_ zmb_ sz26 rfl (H.get 3 rfl)]
  refine zyi_ (gvK (H.get 1 rfl)) fun w2 g => ?_
  have H := H.step g
  unfold firV at hk
  have no : ∀ w', Gr w w' → (zab_ gm && ztd_ gm xs 4) = false → k (.tuple #[.slice none 0 0, .bool false, .bool false]) w' := fun w' g h => by
    have := hk w' none 0 g
    rw [h, if_neg Bool.false_ne_true] at this
    exact this ⟨zwi_ w', Nat.le_refl _⟩
  cases hg : zab_ gm
  · simp only [Bool.not_false, zq18, zq19, zq20, zq21, zq22, zq23, zq24, zq25, zq26, zq27, zq28, zq4, zq3, zq1, zq2, zq0, zq29, zq30, zq14, zq15, zq16, zq17, zq13, zq10, zq12, zq11, zq7, zq5, zq6, zq9, zq8, zq31, zq32, ite_T, ite_F, zq33, zq34, zq35, Nat.reduceEqDiff, len22, len24, fa26_0, fa26_1, fa26_2, len27, len35, fa86_0, fa86_1, fa86_2, fa97_0, fa97_1, fa106_0, fa106_1, fa145_0, fa145_1, fa145_2, fa145_3, fa145_4, len192]
    exact no _ (H.get 0 rfl) (by rw [hg]; rfl)
  have hn := zjc_ hg
  have ht := zdd_ hg
  simp only [Bool.not_true, zq18, zq19, zq20, zq21, zq22, zq23, zq24, zq25, zq26, zq27, zq28, zq4, zq3, zq1, zq2, zq0, zq29, zq30, zq14, zq15, zq16, zq17, zq13, zq10, zq12, zq11, zq7, zq5, zq6, zq9, zq8, zq31, zq32, ite_T, ite_F, zq33, zq34, zq35, Nat.reduceEqDiff, len22, len24, fa26_0, fa26_1, fa26_2, len27, len35, fa86_0, fa86_1, fa86_2, fa97_0, fa97_1, fa106_0, fa106_1, fa145_0, fa145_1, fa145_2, fa145_3, fa145_4, len192]
  by_cases hl : (4 : Int) < xs.length
  · simp only [hl, decide_true, zq18, zq19, zq20, zq21, zq22, zq23, zq24, zq25, zq26, zq27, zq28, zq4, zq3, zq1, zq2, zq0, zq29, zq30, zq14, zq15, zq16, zq17, zq13, zq10, zq12, zq11, zq7, zq5, zq6, zq9, zq8, zq31, zq32, ite_T, ite_F, zq33, zq34, zq35, Nat.reduceEqDiff, len22, len24, fa26_0, fa26_1, fa26_2, len27, len35, fa86_0, fa86_1, fa86_2, fa97_0, fa97_1, fa106_0, fa106_1, fa145_0, fa145_1, fa145_2, fa145_3, fa145_4, len192]
    exact no _ (H.get 0 rfl) (by rw [hg, ← zve_, decide_eq_false (by omega)]; rfl)
  simp only [hl, decide_false, zq18, zq19, zq20, zq21, zq22, zq23, zq24, zq25, zq26, zq27, zq28, zq4, zq3, zq1, zq2, zq0, zq29, zq30, zq14, zq15, zq16, zq17, zq13, zq10, zq12, zq11, zq7, zq5, zq6, zq9, zq8, zq31, zq32, ite_T, ite_F, zq33, zq34, zq35, Nat.reduceEqDiff, len22, len24, fa26_0, fa26_1, fa26_2, len27, len35, fa86_0, fa86_1, fa86_2, fa97_0, fa97_1, fa106_0, fa106_1, fa145_0, fa145_1, fa145_2, fa145_3, fa145_4, len192]
  rw [ldB3 (H.get 3 rfl) rfl, ldB3 (H.get 3 rfl) rfl]
  refine zmg_ (H.get 2 rfl).1 (by simp [inB]; omega) (by simp [inB]; omega) fun w3 g => ?_
  have H := H.step g
  have ef : ztd_ gm xs 4 = xs.all (symB gm.nons gm.toks) := by rw [← zve_, decide_eq_true (show (xs.length : Int) ≤ 4 by omega), Bool.true_and]
  cases hs : xs.all (symB gm.nons gm.toks)
  · simp only [Bool.not_false, zq18, zq19, zq20, zq21, zq22, zq23, zq24, zq25, zq26, zq27, zq28, zq4, zq3, zq1, zq2, zq0, zq29, zq30, zq14, zq15, zq16, zq17, zq13, zq10, zq12, zq11, zq7, zq5, zq6, zq9, zq8, zq31, zq32, ite_T, ite_F, zq33, zq34, zq35, Nat.reduceEqDiff, len22, len24, fa26_0, fa26_1, fa26_2, len27, len35, fa86_0, fa86_1, fa86_2, fa97_0, fa97_1, fa106_0, fa106_1, fa145_0, fa145_1, fa145_2, fa145_3, fa145_4, len192]
    exact no _ (H.get 0 rfl) (by rw [hg, ef, hs]; rfl)
  simp only [Bool.not_true, zq18, zq19, zq20, zq21, zq22, zq23, zq24, zq25, zq26, zq27, zq28, zq4, zq3, zq1, zq2, zq0, zq29, zq30, zq14, zq15, zq16, zq17, zq13, zq10, zq12, zq11, zq7, zq5, zq6, zq9, zq8, zq31, zq32, ite_T, ite_F, zq33, zq34, zq35, Nat.reduceEqDiff, len22, len24, fa26_0, fa26_1, fa26_2, len27, len35, fa86_0, fa86_1, fa86_2, fa97_0, fa97_1, fa106_0, fa106_1, fa145_0, fa145_1, fa145_2, fa145_3, fa145_4, len192]
  have hf : ztd_ gm xs 4 = true := ef.trans hs
  rw [hg, hf, Bool.and_self, if_pos rfl] at hk
  have hF := zyg_ hf
  have hgr := zmd_ hg
  have hx6 : ∀ x ∈ xs, x < 6 := fun x hx => by have := hF.2 x hx; omega
  rw [zw_ zmb_ sz26 rfl (H.get 3 rfl)]
  refine heads_c (H.get 1 rfl) (sixR hg) (fun r hr => ⟨by have := (hgr r hr).2.1; omega, fun x hx => by have := (hgr r hr).2.2 x hx; omega⟩) fun w4 bh B g hB hA => ?_
  have H := (H.step g).addB hB
  simp only [List.cons_append, List.nil_append] at H
  refine zmi_ (H.get 4 rfl) hA.len (H.get 2 rfl).1 (fun x hx => by have := hF.2 x hx; omega) fun w5 S e g hS hset he => ?_
  have H := H.step g
  refine rdi zq1 (rdi zq2 ?_)
  have e1 : setL 4 (fun n => atB S n = true) = begV gm xs := begV_tok (Q := True) (by omega) (fun x hx => (hF.2 x hx).1) (fun r hr x hx => ((hgr r hr).2.2 x hx).1) fun t ht => by
    rw [hset t ht, hA.made hx6, hA.seq hx6]
  have e2 : e = nulV gm xs := by
    rw [Bool.eq_iff_iff, nulV_iff, he, hA.made hx6, hA.nulls hx6]
    exact ⟨fun h => h.2, fun h => ⟨zvh_ h, h⟩⟩
  refine do_new (cs := S.map Value.bool) H inf71' sz71 rfl (by simpa using hS) (by rw [← zkf_]; exact zmf_ S) rfl fun b8 w6 H => ?_
  simp only [List.cons_append, List.nil_append] at H
  rw [zw_ agg71 sz71 (by simp [hS]) (H.get 5 rfl)]
  refine tokensOf_c hS fun w7 U d g hU => ?_
  have H := H.step g
  rw [e1] at hU ⊢
  rw [e2]
  exact hk w7 U d (H.get 0 rfl) hU
end
end Go.Proofs.Yteabbgaffgpegaa

namespace Go.Sh
abbrev CT := Nat → Nat → Nat → Option Nat
def CT.put (T : CT) (A i j n : Nat) : CT := fun A' i' j' => if A' = A ∧ i' = i ∧ j' = j then some n else T A' i' j'
def better (n : Nat) : Option Nat → Bool
  | none => true
  | some o => decide (n < o)
abbrev GS := CT × Bool
abbrev CandG := CT → Nat → Nat → Nat → Option Nat
def stepG (c : CandG) (rs : List RuleL) (q i : Nat) (s : GS) (j : Nat) : GS :=
  match c s.1 q i j with
  | none => s
  | some n => if better n (s.1 (rul rs q).1.toNat i j) then (s.1.put (rul rs q).1.toNat i j n, true) else s
def rowG (c : CandG) (rs : List RuleL) (n q : Nat) (s : GS) (i : Nat) : GS := (List.range' i (n - i)).foldl (stepG c rs q i) s
def ruleG (c : CandG) (rs : List RuleL) (n : Nat) (s : GS) (q : Nat) : GS := (List.range n).foldl (rowG c rs n q) s
def passG (c : CandG) (rs : List RuleL) (n : Nat) (s : GS) : GS := (List.range rs.length).foldl (ruleG c rs n) s
inductive FixG (c : CandG) (rs : List RuleL) (n : Nat) : CT → CT → Prop
  | done {T : CT} : (passG c rs n (T, false)).2 = false → FixG c rs n T (passG c rs n (T, false)).1
  | more {T U : CT} : (passG c rs n (T, false)).2 = true → FixG c rs n (passG c rs n (T, false)).1 U → FixG c rs n T U
theorem FixG.det {c : CandG} {rs : List RuleL} {n : Nat} {T U V : CT} (h : FixG c rs n T U) (g : FixG c rs n T V) : U = V := by
  induction h with
  | done h1 =>
    cases g with
    | done g1 => rfl
    | more g1 g2 => rw [h1] at g1; cases g1
  | more h1 h2 ih =>
    cases g with
    | done g1 => rw [h1] at g1; cases g1
    | more g1 g2 => exact ih g2
def eB : Nat → Nat
  | 0 => 1
  | s + 1 => 100 + 4 * eB s
def gB (l s : Nat) : Nat := if l = 0 then eB s else 6749808 * (l - 1) + 562484 * s + l
def cntG (T : CT) (i j : Nat) : Nat := sumN (fun A => if (T A i j).isSome then 1 else 0) 6
theorem sumN_le {f g : Nat → Nat} : ∀ {n : Nat}, (∀ k, k < n → f k ≤ g k) → sumN f n ≤ sumN g n := by
  intro n
  induction n with
  | zero => intro _; exact Nat.le_refl _
  | succ n ih =>
    intro h
    have := ih fun k hk => h k (by omega)
    have := h n (by omega)
    rw [sumN, sumN]
    omega
theorem sumN_one {f g : Nat → Nat} {p d : Nat} : ∀ {n : Nat}, p < n → (∀ k, k < n → k ≠ p → f k = g k) → f p + d = g p → sumN f n + d = sumN g n := by
  intro n
  induction n with
  | zero => intro h; omega
  | succ n ih =>
    intro h h1 h2
    rw [sumN, sumN]
    by_cases hp : p = n
    · subst hp
      rw [zdf_ fun k hk => h1 k (by omega) (by omega)]
      omega
    · have := ih (by omega) (fun k hk => h1 k (by omega)) h2
      have := h1 n (by omega) (by omega)
      omega
theorem cntG_le (T : CT) (i j : Nat) : cntG T i j ≤ 6 := by
  have := sumN_le (f := fun A => if (T A i j).isSome then 1 else 0) (g := fun _ => 1) (n := 6) (fun k _ => by split <;> omega)
  exact this
theorem eB_mono : ∀ {s t : Nat}, s ≤ t → eB s ≤ eB t := by
  intro s t h
  induction h with
  | refl => exact Nat.le_refl _
  | step _ ih => rw [eB]; omega
theorem eB6 : eB 6 = 140596 := by decide
theorem gB_mono {l s t : Nat} (h : s ≤ t) : gB l s ≤ gB l t := by
  unfold gB
  split
  · exact eB_mono h
  · omega
theorem gB_zero (s : Nat) : gB 0 s = eB s := if_pos rfl
theorem gB_pos {l s : Nat} (h : 0 < l) : gB l s = 6749808 * (l - 1) + 562484 * s + l := if_neg (by omega)
def SmallG (T : CT) : Prop := ∀ A i j n, i ≤ j → T A i j = some n → n ≤ gB (j - i) (cntG T i j)
theorem SmallG.six {T : CT} (h : SmallG T) {A i j n : Nat} (hij : i ≤ j) (hT : T A i j = some n) : n ≤ gB (j - i) 6 := Nat.le_trans (h A i j n hij hT) (gB_mono (cntG_le T i j))
section
variable {tok : Int → Nat → Nat → Option Nat} {nl : Nat → Nat → Option Nat} {T : CT}
end
theorem SmallG.le {T : CT} (h : SmallG T) {A i j n : Nat} (hij : i ≤ j) (hj : j ≤ 10) (hT : T A i j = some n) : n ≤ 100000000 := by
  have := h.six hij hT
  by_cases e : i = j
  · subst e
    rw [Nat.sub_self, gB_zero, eB6] at this
    omega
  · rw [gB_pos (by omega)] at this
    omega
theorem cntG_put {T : CT} {A i j n : Nat} (hA : A < 6) : cntG (T.put A i j n) i j + (if (T A i j).isSome then 1 else 0) = cntG T i j + 1 := by
  unfold cntG
  by_cases h : (T A i j).isSome
  · rw [if_pos h]
    congr 1
    refine zdf_ fun k hk => ?_
    unfold CT.put
    by_cases e : k = A
    · subst e
      simp [h]
    · simp [e]
  · rw [if_neg h]
    symm
    refine sumN_one (p := A) hA (fun k hk hne => ?_) ?_
    · simp [CT.put, hne]
    · simp [CT.put, h]
theorem cntG_other {T : CT} {A i j n i' j' : Nat} (h : ¬ (i' = i ∧ j' = j)) : cntG (T.put A i j n) i' j' = cntG T i' j' := by
  unfold cntG
  refine zdf_ fun k hk => ?_
  have : T.put A i j n k i' j' = T k i' j' := if_neg fun e => h e.2
  rw [this]
theorem smallG_put {T : CT} (h : SmallG T) {A i j n : Nat} (hA : A < 6) (hn : n ≤ gB (j - i) (cntG T i j + 1)) (hb : better n (T A i j) = true) : SmallG (T.put A i j n) := by
  intro A' i' j' m hij hm
  by_cases e : i' = i ∧ j' = j
  · obtain ⟨rfl, rfl⟩ := e
    have hc := cntG_put (T := T) (i := i') (j := j') (n := n) hA
    have hmono : gB (j' - i') (cntG T i' j') ≤ gB (j' - i') (cntG (T.put A i' j' n) i' j') := gB_mono (by split at hc <;> omega)
    unfold CT.put at hm
    by_cases e2 : A' = A
    · subst e2
      rw [if_pos ⟨rfl, rfl, rfl⟩] at hm
      cases hm
      cases ho : T A' i' j' with
      | none =>
        rw [ho] at hc
        rw [if_neg (by simp)] at hc
        rwa [show cntG (T.put A' i' j' n) i' j' = cntG T i' j' + 1 from by omega]
      | some o =>
        rw [ho] at hb
        have := h _ _ _ _ hij ho
        unfold better at hb
        have := of_decide_eq_true hb
        omega
    · rw [if_neg fun e => e2 e.1] at hm
      have := h _ _ _ _ hij hm
      omega
  · rw [cntG_other e]
    unfold CT.put at hm
    rw [if_neg fun e' => e e'.2] at hm
    exact h _ _ _ _ hij hm
def cellG (T : CT) (p : Nat) : Nat := match T (p / 121) (p / 11 % 11) (p % 11) with | none => 100000001 | some n => n
def sumG (T : CT) : Nat := sumN (cellG T) 726
theorem cellG_at {T : CT} {A i j : Nat} (hi : i < 11) (hj : j < 11) : cellG T (A * 121 + i * 11 + j) = match T A i j with | none => 100000001 | some n => n := by
  unfold cellG
  rw [show (A * 121 + i * 11 + j) / 121 = A from by omega, show (A * 121 + i * 11 + j) / 11 % 11 = i from by omega, show (A * 121 + i * 11 + j) % 11 = j from by omega]
theorem sumG_put {T : CT} {A i j n : Nat} (hA : A < 6) (hi : i < 11) (hj : j < 11) (hn : n ≤ 100000000) (hb : better n (T A i j) = true) : sumG (T.put A i j n) < sumG T := by
  unfold sumG
  have h1 : cellG (T.put A i j n) (A * 121 + i * 11 + j) = n := by
    rw [cellG_at hi hj]
    simp [CT.put]
  have h2 : n < cellG T (A * 121 + i * 11 + j) := by
    rw [cellG_at hi hj]
    cases ho : T A i j with
    | none => show n < 100000001; omega
    | some o =>
      rw [ho] at hb
      exact of_decide_eq_true hb
  have := sumN_one (f := cellG (T.put A i j n)) (g := cellG T) (p := A * 121 + i * 11 + j) (d := cellG T (A * 121 + i * 11 + j) - n) (n := 726) (by omega) (fun k hk hne => by
    unfold cellG CT.put
    rw [if_neg (by omega)]) (by omega)
  omega
def DropG (s s' : GS) : Prop := s' = s ∨ (s'.2 = true ∧ sumG s'.1 < sumG s.1)
theorem DropG.trans {a b c : GS} (h : DropG a b) (g : DropG b c) : DropG a c := by
  rcases h with rfl | ⟨h1, h2⟩
  · exact g
  · rcases g with rfl | ⟨g1, g2⟩
    · exact .inr ⟨h1, h2⟩
    · exact .inr ⟨g1, by omega⟩
theorem DropG.fold {α : Type} {I : CT → Prop} {f : GS → α → GS} : ∀ {l : List α} {s : GS}, (∀ a ∈ l, ∀ s, I s.1 → I (f s a).1 ∧ DropG s (f s a)) → I s.1 → I (l.foldl f s).1 ∧ DropG s (l.foldl f s) := by
  intro l
  induction l with
  | nil => intro s _ h; exact ⟨h, .inl rfl⟩
  | cons a l ih =>
    intro s hs h
    obtain ⟨h1, h2⟩ := hs a (List.mem_cons_self ..) s h
    obtain ⟨h3, h4⟩ := ih (fun b hb => hs b (List.mem_cons_of_mem _ hb)) h1
    exact ⟨h3, h2.trans h4⟩
def OfferG (c : CandG) (rs : List RuleL) (n : Nat) : Prop := (∀ q, q < rs.length → (rul rs q).1.toNat < 6) ∧ n ≤ 11 ∧ ∀ T q i j m, SmallG T → q < rs.length → i ≤ j → j < n → c T q i j = some m → m ≤ gB (j - i) (cntG T i j + 1)
section
variable {c : CandG} {rs : List RuleL} {n : Nat}
theorem stepG_drop (hc : OfferG c rs n) {q i j : Nat} (hq : q < rs.length) (hij : i ≤ j) (hj : j < n) {s : GS} (hs : SmallG s.1) : SmallG (stepG c rs q i s j).1 ∧ DropG s (stepG c rs q i s j) := by
  unfold stepG
  split
  · exact ⟨hs, .inl rfl⟩
  · rename_i m hm
    split
    · rename_i hb
      have h1 := smallG_put hs (hc.1 q hq) (hc.2.2 _ _ _ _ _ hs hq hij hj hm) hb
      refine ⟨h1, .inr ⟨rfl, sumG_put (hc.1 q hq) (by have := hc.2.1; omega) (by have := hc.2.1; omega) ?_ hb⟩⟩
      exact h1.le (A := (rul rs q).1.toNat) hij (by have := hc.2.1; omega) (by simp [CT.put])
    · exact ⟨hs, .inl rfl⟩
theorem rowG_drop (hc : OfferG c rs n) {q : Nat} (hq : q < rs.length) {s : GS} (hs : SmallG s.1) (i : Nat) : SmallG (rowG c rs n q s i).1 ∧ DropG s (rowG c rs n q s i) :=
  DropG.fold (I := SmallG) (fun j hj s hs => by
    rw [List.mem_range'_1] at hj
    exact stepG_drop hc hq hj.1 (by omega) hs) hs
theorem ruleG_drop (hc : OfferG c rs n) {q : Nat} (hq : q < rs.length) {s : GS} (hs : SmallG s.1) : SmallG (ruleG c rs n s q).1 ∧ DropG s (ruleG c rs n s q) :=
  DropG.fold (I := SmallG) (fun i hi s hs => rowG_drop hc hq hs i) hs
theorem zfg_ (hc : OfferG c rs n) {s : GS} (hs : SmallG s.1) : SmallG (passG c rs n s).1 ∧ DropG s (passG c rs n s) :=
  DropG.fold (I := SmallG) (fun q hq s hs => ruleG_drop hc (List.mem_range.1 hq) hs) hs
theorem FixG.small (hc : OfferG c rs n) {T U : CT} (h : FixG c rs n T U) (hT : SmallG T) : SmallG U := by
  induction h with
  | done h1 => exact (zfg_ hc (s := (_, false)) hT).1
  | more h1 h2 ih => exact ih (zfg_ hc (s := (_, false)) hT).1
theorem DropG.still {α : Type} {I : CT → Prop} {f : GS → α → GS} : ∀ {l : List α} {s : GS}, (∀ a ∈ l, ∀ s, I s.1 → I (f s a).1 ∧ DropG s (f s a)) → I s.1 → s.2 = false → (l.foldl f s).2 = false → ∀ a ∈ l, f s a = s := by
  intro l
  induction l with
  | nil => intro s _ _ _ _ a ha; simp at ha
  | cons b l ih =>
    intro s hs h0 h he a ha
    rw [List.foldl_cons] at he
    have hb : f s b = s := by
      rcases (hs b (List.mem_cons_self ..) s h0).2 with e | ⟨e, _⟩
      · exact e
      · exfalso
        rcases (DropG.fold (fun c hc => hs c (List.mem_cons_of_mem _ hc)) (hs b (List.mem_cons_self ..) s h0).1).2 with e' | ⟨e', _⟩
        · rw [e', e] at he
          cases he
        · rw [e'] at he
          cases he
    rcases List.mem_cons.1 ha with rfl | ha
    · exact hb
    · rw [hb] at he
      exact ih (fun c hc => hs c (List.mem_cons_of_mem _ hc)) h0 h he a ha
theorem FixG.closed (hc : OfferG c rs n) {T U : CT} (h : FixG c rs n T U) (hT : SmallG T) : (passG c rs n (U, false)).2 = false := by
  induction h with
  | done h1 =>
    rename_i T
    have h2 : (passG c rs n (T, false)).1 = T := by
      rcases (zfg_ hc (s := (T, false)) hT).2 with e | ⟨e, _⟩
      · rw [e]
      · rw [e] at h1
        cases h1
    rw [h2]
    exact h1
  | more h1 h2 ih => exact ih (zfg_ hc (s := (_, false)) hT).1
end
open Go
def costQ (cs : List Int) (q : Nat) : Nat := (cs.getD q 0).toNat
section
variable {rs : List RuleL} {ws cs : List Int} {T : CT}
end
structure TabE (enc : Option Nat → Int) (w : World) (U : Option Addr) (nons n : Nat) (T : CT) : Prop where
  ptr : 0 < nons → U = some (ad U)
  row : ∀ x, x < nons → ∃ R c, w.cell? ((ad U).add x) = some (.slice R (n * n) c) ∧ R = some (ad R) ∧ ∀ i j, i < n → j < n → w.cell? ((ad R).add (i * n + j)) = some (.int .i64 (enc (T x i j)))
  cap : ∀ x R c, x < nons → w.cell? ((ad U).add x) = some (.slice R (n * n) c) → n * n ≤ c
theorem TabE.gr {enc : Option Nat → Int} {w w' : World} {U : Option Addr} {nons n : Nat} {T : CT} (h : TabE enc w U nons n T) (g : Gr w w') : TabE enc w' U nons n T := ⟨h.ptr, fun x hx => by
  obtain ⟨R, c, h1, h2, h3⟩ := h.row x hx
  exact ⟨R, c, g.cell h1, h2, fun i j hi hj => g.cell (h3 i j hi hj)⟩, fun x R c hx hc => by
  obtain ⟨R', c', h1, _, _⟩ := h.row x hx
  have h4 := g.cell h1
  rw [hc] at h4
  cases h4
  exact h.cap x _ _ hx h1⟩
section
variable {enc : Option Nat → Int} {T : CT}
end
def rowN (enc : Option Nat → Int) (T : CT) (n x : Nat) : List Int := (List.range (n * n)).map fun p => enc (T x (p / n) (p % n))
theorem zej_ (enc : Option Nat → Int) (T : CT) (n x : Nat) : (rowN enc T n x).length = n * n := by simp [rowN]
theorem TabE.ints {enc : Option Nat → Int} {w : World} {U : Option Addr} {nons n : Nat} {T : CT} (h : TabE enc w U nons n T) (hn : n ≤ 11) {x : Nat} (hx : x < nons) : ∃ R c, w.cell? ((ad U).add x) = some (.slice R (n * n) c) ∧ n * n ≤ c ∧ Ints w R (rowN enc T n x) := by
  obtain ⟨R, c, h1, h2, h3⟩ := h.row x hx
  have hnn : n * n ≤ 11 * 11 := Nat.mul_le_mul hn hn
  refine ⟨R, c, h1, h.cap x R c hx h1, by rw [zej_]; omega, fun _ => h2, fun j hj => ?_⟩
  rw [zej_] at hj
  have hn0 : 0 < n := by
    cases n with
    | zero => simp at hj
    | succ n => omega
  have h4 := h3 (j / n) (j % n) (Nat.div_lt_of_lt_mul hj) (Nat.mod_lt _ hn0)
  rw [Nat.mul_comm (j / n), Nat.div_add_mod] at h4
  rw [h4]
  congr 2
  simp [rowN, List.getD_eq_getElem?_getD, hj]
end Go.Sh
namespace Go.Proofs.Yteabbgaffgpegaa
open Go Go.Sh Go.RowKit
open Go Go.Sh

end Go.Proofs.Yteabbgaffgpegaa

namespace Go.Sh
open Go
end Go.Sh
namespace Go.Proofs.Yteabbgaffgpegaa
open Go Go.Sh Go.RowKit
end Go.Proofs.Yteabbgaffgpegaa

namespace Go.Sh
open Go
section
variable {c : CandG} {rs : List RuleL} {n : Nat}
end
end Go.Sh
namespace Go.Proofs.Yteabbgaffgpegaa
open Go Go.Sh Go.RowKit
end Go.Proofs.Yteabbgaffgpegaa

namespace Go.Sh
open Go
section
variable {ws cs : List Int} {rs : List RuleL} {n : Nat}
end
structure CostsOk (gm : Gram) (cs : List Int) : Prop where
  len : cs.length = gm.rules.length
  all : ∀ c ∈ cs, 1 ≤ c ∧ c ≤ 100
theorem CostsOk.at {gm : Gram} {cs : List Int} (h : CostsOk gm cs) {q : Nat} (hq : q < gm.rules.length) : cs.getD q 0 = (costQ cs q : Int) ∧ 0 < costQ cs q ∧ costQ cs q ≤ 100 := by
  have hq' : q < cs.length := by rw [h.len]; exact hq
  have hm : cs.getD q 0 ∈ cs := by
    rw [List.getD_eq_getElem?_getD, List.getElem?_eq_getElem hq', Option.getD_some]
    exact List.getElem_mem hq'
  have := h.all _ hm
  unfold costQ
  omega
end Go.Sh
namespace Go.Proofs.Yteabbgaffgpegaa
open Go Go.Sh Go.RowKit
open Go Go.Sh

end Go.Proofs.Yteabbgaffgpegaa

namespace Go.Sh
open Go
end Go.Sh
namespace Go.Proofs.Yteabbgaffgpegaa
open Go Go.Sh Go.RowKit
open Go Go.Sh

end Go.Proofs.Yteabbgaffgpegaa

namespace Go.Sh
open Go
structure Slots (F : Nat → Prop) (w : World) (ls : List (List Int)) (cells : List Value) : Prop where
  len : cells.length = ls.length
  cell : ∀ (j : Nat) (v : Value), cells[j]? = some v → ∃ Y c, v = .slice Y (rgt ls j).length c ∧ (rgt ls j).length ≤ c ∧ IntsF F w Y (rgt ls j)
theorem Slots.gr {F : Nat → Prop} {w w' : World} {ls : List (List Int)} {cells : List Value} (h : Slots F w ls cells) (g : Gr w w') : Slots F w' ls cells := ⟨h.len, fun j v hv => by
  obtain ⟨Y, c, h1, h2, h3⟩ := h.cell j v hv
  exact ⟨Y, c, h1, h2, h3.gr g⟩⟩
theorem Slots.nil (F : Nat → Prop) (w : World) : Slots F w [] [] := ⟨rfl, fun j v hv => by simp at hv⟩
theorem Slots.single {F : Nat → Prop} {w : World} {x : List Int} {Y : Option Addr} {c : Nat} (hc : x.length ≤ c) (h : IntsF F w Y x) : Slots F w [x] [.slice Y x.length c] := ⟨rfl, fun j v hv => by
  cases j with
  | zero =>
    obtain rfl : (.slice Y x.length c : Value) = v := by simpa using hv
    exact ⟨Y, c, rfl, hc, h⟩
  | succ j => simp at hv⟩
theorem Slots.append {F : Nat → Prop} {w : World} {ls ms : List (List Int)} {cells news : List Value} (h : Slots F w ls cells) (h' : Slots F w ms news) : Slots F w (ls ++ ms) (cells ++ news) := by
  refine ⟨by rw [List.length_append, List.length_append, h.len, h'.len], fun j v hv => ?_⟩
  by_cases hj : j < cells.length
  · rw [List.getElem?_append_left hj] at hv
    rw [zpg_ (by rw [← h.len]; exact hj)]
    exact h.cell j v hv
  · rw [List.getElem?_append_right (by omega)] at hv
    rw [zii_ (by rw [← h.len]; omega), ← h.len]
    exact h'.cell _ v hv
theorem rgt_take {ls : List (List Int)} {m j : Nat} (h : j < m) : rgt (ls.take m) j = rgt ls j := by
  simp [rgt, List.getD_eq_getElem?_getD, List.getElem?_take, h]
theorem rgt_drop {ls : List (List Int)} {m j : Nat} : rgt (ls.drop m) j = rgt ls (m + j) := by
  simp [rgt, List.getD_eq_getElem?_getD, List.getElem?_drop]
theorem Slots.take {F : Nat → Prop} {w : World} {ls : List (List Int)} {cells : List Value} (h : Slots F w ls cells) (m : Nat) : Slots F w (ls.take m) (cells.take m) := by
  refine ⟨by rw [List.length_take, List.length_take, h.len], fun j v hv => ?_⟩
  rw [List.getElem?_take] at hv
  split at hv
  · rename_i hj
    rw [rgt_take hj]
    exact h.cell j v hv
  · cases hv
theorem Slots.drop {F : Nat → Prop} {w : World} {ls : List (List Int)} {cells : List Value} (h : Slots F w ls cells) (m : Nat) : Slots F w (ls.drop m) (cells.drop m) := by
  refine ⟨by rw [List.length_drop, List.length_drop, h.len], fun j v hv => ?_⟩
  rw [List.getElem?_drop] at hv
  rw [rgt_drop]
  exact h.cell _ v hv
theorem Slots.one {F : Nat → Prop} {w : World} {ls : List (List Int)} {cells : List Value} (h : Slots F w ls cells) : ∀ v ∈ cells, v.oneCell' = true := fun v hv => by
  obtain ⟨j, hj⟩ := List.getElem?_of_mem hv
  obtain ⟨Y, c, rfl, _⟩ := h.cell j v hj
  rfl
structure IssF (F : Nat → Prop) (w : World) (X : Option Addr) (ls : List (List Int)) : Prop where
  le : ls.length ≤ 9223372036854775807
  ptr : 0 < ls.length → X = some (ad X)
  foot : 0 < ls.length → F (ad X).block
  row : ∀ j, j < ls.length → ∃ Y c, w.cell? ((ad X).add j) = some (.slice Y (rgt ls j).length c) ∧ (rgt ls j).length ≤ c ∧ IntsF F w Y (rgt ls j)
section
variable {F : Nat → Prop} {w w' : World} {X : Option Addr} {ls : List (List Int)}
theorem IssF.is (h : IssF F w X ls) : Intss w X ls := ⟨h.le, h.ptr, fun j hj => by
  obtain ⟨Y, c, h1, h2, h3⟩ := h.row j hj
  exact ⟨Y, c, h1, h2, h3.is⟩⟩
theorem IssF.gr (h : IssF F w X ls) (g : Gr w w') : IssF F w' X ls := ⟨h.le, h.ptr, h.foot, fun j hj => by
  obtain ⟨Y, c, h1, h2, h3⟩ := h.row j hj
  exact ⟨Y, c, g.cell h1, h2, h3.gr g⟩⟩
theorem IssF.mono {E : Nat → Prop} (h : IssF F w X ls) (he : ∀ b, F b → E b) : IssF E w X ls := ⟨h.le, h.ptr, fun hp => he _ (h.foot hp), fun j hj => by
  obtain ⟨Y, c, h1, h2, h3⟩ := h.row j hj
  exact ⟨Y, c, h1, h2, h3.mono he⟩⟩
theorem cell_lt {a : Addr} {v : Value} (h : w.cell? a = some v) : a.block < w.heap.size := by
  unfold World.cell? at h
  cases hb : w.heap[a.block]? with
  | none => rw [hb] at h; cases h
  | some _ => exact (Array.getElem?_eq_some_iff.1 hb).1
theorem IntsF.lt {xs : List Int} (h : IntsF F w X xs) : IntsF (fun b => F b ∧ b < w.heap.size) w X xs := ⟨h.is, fun hp => ⟨h.foot hp, by
  have := cell_lt (h.is.cell 0 hp)
  rwa [zac_] at this⟩⟩
theorem IssF.lt (h : IssF F w X ls) : IssF (fun b => F b ∧ b < w.heap.size) w X ls := ⟨h.le, h.ptr, fun hp => ⟨h.foot hp, by
  obtain ⟨Y, c, h1, _⟩ := h.row 0 hp
  have := cell_lt h1
  rwa [zac_] at this⟩, fun j hj => by
  obtain ⟨Y, c, h1, h2, h3⟩ := h.row j hj
  exact ⟨Y, c, h1, h2, h3.lt⟩⟩
theorem zgp_ {a : Addr} {v : Value} (h : w.cell? a = some v) (hs : w'.heap[a.block]? = w.heap[a.block]?) : w'.cell? a = some v := by
  unfold World.cell? at h ⊢
  rw [hs]
  exact h
theorem IntsF.same {xs : List Int} (h : IntsF F w X xs) (hs : ∀ q, F q → w'.heap[q]? = w.heap[q]?) : IntsF F w' X xs :=
  ⟨⟨h.is.le, h.is.ptr, fun j hj => zgp_ (h.is.cell j hj) (hs _ (by rw [zac_]; exact h.foot (by omega)))⟩, h.foot⟩
theorem IssF.same (h : IssF F w X ls) (hs : ∀ q, F q → w'.heap[q]? = w.heap[q]?) : IssF F w' X ls := ⟨h.le, h.ptr, h.foot, fun j hj => by
  obtain ⟨Y, c, h1, h2, h3⟩ := h.row j hj
  exact ⟨Y, c, zgp_ h1 (hs _ (by rw [zac_]; exact h.foot (by omega))), h2, h3.same hs⟩⟩
theorem IssF.cells (h : IssF F w X ls) : ∃ cells, SrcQ w X cells ∧ Slots F w ls cells := by
  have key : ∀ n, n ≤ ls.length → ∃ cells : List Value, cells.length = n ∧ ∀ (j : Nat) (v : Value), cells[j]? = some v → w.cell? ((ad X).add j) = some v ∧ ∃ Y c, v = .slice Y (rgt ls j).length c ∧ (rgt ls j).length ≤ c ∧ IntsF F w Y (rgt ls j) := by
    intro n
    induction n with
    | zero => exact fun _ => ⟨[], rfl, fun j v hv => by simp at hv⟩
    | succ n ih =>
      intro hn
      obtain ⟨cells, h1, h2⟩ := ih (by omega)
      obtain ⟨Y, c, h3, h4, h5⟩ := h.row n (by omega)
      refine ⟨cells ++ [.slice Y (rgt ls n).length c], by simp [h1], fun j v hv => ?_⟩
      by_cases hj : j < n
      · rw [List.getElem?_append_left (by omega)] at hv
        exact h2 j v hv
      · rw [List.getElem?_append_right (by omega), h1] at hv
        have hlt := (List.getElem?_eq_some_iff.1 hv).1
        obtain rfl : j = n := by simp at hlt; omega
        obtain rfl : (.slice Y (rgt ls j).length c : Value) = v := by simpa using hv
        exact ⟨h3, Y, c, rfl, h4, h5⟩
  obtain ⟨cells, h1, h2⟩ := key ls.length (Nat.le_refl _)
  refine ⟨cells, ⟨fun hne => h.ptr ?_, fun j u hu => (h2 j u hu).1⟩, h1, fun j v hv => (h2 j v hv).2⟩
  cases cells with
  | nil => exact absurd rfl hne
  | cons v cells => rw [← h1]; simp
theorem IssF.of {cells : List Value} (hs : SrcQ w X cells) (h : Slots F w ls cells) (hl : ls.length ≤ 9223372036854775807) (hf : 0 < ls.length → F (ad X).block) : IssF F w X ls := by
  refine ⟨hl, fun hp => hs.ptr fun e => ?_, hf, fun j hj => ?_⟩
  · have := h.len
    rw [e] at this
    simp at this
    omega
  · have hlt : j < cells.length := by rw [h.len]; exact hj
    obtain ⟨Y, c, h1, h2, h3⟩ := h.cell j _ (List.getElem?_eq_getElem hlt)
    refine ⟨Y, c, ?_, h2, h3⟩
    rw [← h1]
    exact hs.cell j _ (List.getElem?_eq_getElem hlt)
theorem IssF.nil (F : Nat → Prop) (w : World) : IssF F w none [] := IssF.of (SrcQ.nil w none) (Slots.nil F w) (by simp) fun h => by simp at h
end
theorem IntsF.nil (F : Nat → Prop) (w : World) : IntsF F w none [] := ⟨⟨by simp, fun h => by simp at h, fun j hj => by simp at hj⟩, fun h => by simp at h⟩
structure InsAt (ls : List (List Int)) (x : List Int) (m : Nat) : Prop where
  le : m ≤ ls.length
  more : ∀ j, m ≤ j → j < ls.length → ltL x (rgt ls j)
  less : 0 < m → ¬ ltL x (rgt ls (m - 1))
end Go.Sh
namespace Go.Proofs.Yteabbgaffgpegaa
open Go Go.Sh Go.RowKit
end Go.Proofs.Yteabbgaffgpegaa

namespace Go.Sh
open Go
theorem Slots.mono {F E : Nat → Prop} {w : World} {ls : List (List Int)} {cells : List Value} (h : Slots F w ls cells) (he : ∀ b, F b → E b) : Slots E w ls cells := ⟨h.len, fun j v hv => by
  obtain ⟨Y, c, h1, h2, h3⟩ := h.cell j v hv
  exact ⟨Y, c, h1, h2, h3.mono he⟩⟩
theorem zmh_ {ls : List (List Int)} {i j : Nat} {ys : List Int} (hi : i < ls.length) : rgt (ls.set i ys) j = if j = i then ys else rgt ls j := by
  unfold rgt
  rw [List.getD_eq_getElem?_getD, List.getD_eq_getElem?_getD, List.getElem?_set]
  by_cases e : i = j
  · subst e
    simp [hi]
  · rw [if_neg e, if_neg fun h => e h.symm]
theorem Slots.put {F : Nat → Prop} {w : World} {ls : List (List Int)} {cells : List Value} {i d : Nat} {Y : Option Addr} {ys : List Int} (h : Slots F w ls cells) (hi : i < ls.length) (hY : IntsF F w Y ys) (hd : ys.length ≤ d) : Slots F w (ls.set i ys) (cells.set i (.slice Y ys.length d)) := by
  refine ⟨by rw [List.length_set, List.length_set, h.len], fun j v hv => ?_⟩
  rw [List.getElem?_set] at hv
  rw [zmh_ hi]
  split at hv
  · rename_i e
    subst e
    rw [if_pos rfl]
    split at hv
    · obtain rfl := Option.some.inj hv
      exact ⟨Y, d, rfl, hd, hY⟩
    · cases hv
  · rename_i e
    rw [if_neg fun h => e h.symm]
    exact h.cell j v hv
theorem Slots.nils (F : Nat → Prop) (w : World) (n : Nat) : Slots F w (List.replicate n []) (List.replicate n (.slice none 0 0)) := by
  refine ⟨by simp, fun j v hv => ?_⟩
  have hj : j < n := by
    have := (List.getElem?_eq_some_iff.1 hv).1
    simpa using this
  rw [List.getElem?_replicate, if_pos hj] at hv
  obtain rfl := Option.some.inj hv
  have e : rgt (List.replicate n ([] : List Int)) j = [] := by
    unfold rgt
    rw [List.getD_eq_getElem?_getD, List.getElem?_replicate, if_pos hj]
    rfl
  rw [e]
  exact ⟨none, 0, rfl, Nat.le_refl _, IntsF.nil F w⟩
theorem Slots.other {F : Nat → Prop} {w w' : World} {ls : List (List Int)} {cells : List Value} {r : Option Nat} (h : Slots F w ls cells) (g : w.grownBy w' r) (hr : ∀ q, F q → r ≠ some q) : Slots (fun q => F q) w' ls cells := by
  refine ⟨h.len, fun j v hv => ?_⟩
  obtain ⟨Y, c, h1, h2, h3⟩ := h.cell j v hv
  refine ⟨Y, c, h1, h2, ?_⟩
  have h4 := (IntsF.lt h3).same (w' := w') fun q hq => g.block q hq.2 fun e => hr q hq.1 e.symm
  exact h4.mono fun q hq => hq.1
def FL (fs : List (List Int)) (A : Nat) (t : Int) : Prop := t ∈ rgt fs A
end Go.Sh
namespace Go.Proofs.Yteabbgaffgpegaa
open Go Go.Sh Go.RowKit
theorem zxj_ {F : Nat → Prop} {w : World} {X : Option Addr} {c : Nat} {xs : List Int} {n : Int} (hF : ∀ q, w.heap.size ≤ q → F q) (hx : IntsF F w X xs) (hc : xs.length ≤ c) (hl : xs.length ≤ 100000) {k : Value → World → Prop} (hk : ∀ w' X' c', Gr w w' → IntsF F w' X' (putL n xs) → (putL n xs).length ≤ c' → k (.slice X' (putL n xs).length c') w') :
    CallK Try.prog 148 [.slice X xs.length c, .int .i64 n] k w := by
  refine enter148 ?_
  unfold S148
  have hi0 := hx.is
  refine zhb_ xs.length 0 (fun i f w' => i ≤ xs.length ∧ f 5 = .int .i64 i ∧ w' = w ∧ ∀ j, j < i → xs.getD j 0 < n) ⟨Nat.zero_le _, rfl, rfl, fun j hj => by omega⟩ ?_
  rintro i f w1 N hag ⟨hi, h5, rfl, hpre⟩ hN
  have h0 : f 0 = .slice X xs.length c := hag 0 (by decide)
  have h1 : f 1 = .int .i64 n := hag 1 (by decide)
  simp only [h0, h1, h5, zq18, zq19, zq20, zq21, zq22, zq23, zq24, zq25, zq26, zq27, zq28, zq4, zq3, zq1, zq2, zq0, zq29, zq30, zq14, zq15, zq16, zq17, zq13, zq10, zq12, zq11, zq7, zq5, zq6, zq9, zq8, zq31, zq32, ite_T, ite_F, zq33, zq34, zq35, Nat.reduceEqDiff, len22, len24, fa26_0, fa26_1, fa26_2, len27, len35, fa86_0, fa86_1, fa86_2, fa97_0, fa97_1, fa106_0, fa106_1, fa145_0, fa145_1, fa145_2, fa145_3, fa145_4, len192]
  have fin : (i < xs.length → ¬ xs.getD i 0 < n) → ∀ (K : Value → World → Prop), (∀ w' X' c', Gr w1 w' → IntsF F w' X' (putL n xs) → (putL n xs).length ≤ c' → K (.slice X' (putL n xs).length c') w') → ¬ (i < xs.length ∧ xs.getD i 0 = n) →
      Do Try.prog (zh_ 27 0 []) (fun t37 w38 =>
        Rd Try.prog (WS.at w38) (zyb_ 27 (.slice X xs.length c) none (some (.int .i64 i)) none) fun t39 =>
        Do Try.prog (ze_ .append #[27, 27] 27 [false, false] [t37, t39]) (fun t40 w41 =>
        Do Try.prog (zh_ 27 1 [(0, .int .i64 n)]) (fun t42 w43 =>
        Do Try.prog (ze_ .append #[27, 27] 27 [false, false] [t40, t42]) (fun t44 w45 =>
        Rd Try.prog (WS.at w45) (zyb_ 27 (.slice X xs.length c) (some (.int .i64 i)) none none) fun t46 =>
        Do Try.prog (ze_ .append #[27, 27] 27 [false, false] [t44, t46]) (fun t47 w48 => K t47 w48) w45) w43) w41) w38) w1 := fun hnot K hK hne => by
    have H := Apt.nil w1
    refine buildH H u27 inf3 [] (by decide) (by decide) (by simp [Instr.fill, madeCells]) rfl fun b0 w2 H => ?_
    simp only [List.nil_append] at H
    refine rdi (slh27 (by omega) (by omega)) ?_
    have hs1 : Ints w2 (sub X 0 c 1) (xs.take i) := by
      have := (hi0.gr H.gr).sub (l := 0) (c := c) (Nat.zero_le _) hc i
      simpa using this
    have hlt : (xs.take i).length = i := by simp; omega
    refine apH H 0 (xs := []) rfl hs1 rfl (by rw [hlt]; simp) (by simp; omega) fun X1 d1 w3 H => ?_
    simp only [List.set_cons_zero, List.nil_append] at H ⊢
    refine pushH H 0 rfl rfl (by omega) fun t1 X2 d2 w4 H => ?_
    simp only [List.set_cons_zero] at H
    refine rdi (sll27 (by omega) (by omega)) ?_
    have hs2 : Ints w4 (sub X i c 1) (xs.drop i) := by
      have := (hi0.gr H.gr).sub (l := i) (c := c) hi hc xs.length
      rwa [List.take_of_length_le (by simp)] at this
    rw [Int.toNat_natCast]
    refine apH H 0 rfl hs2 rfl (by simp) (by simp; omega) fun X3 d3 w5 H => ?_
    simp only [List.set_cons_zero] at H
    have e : xs.take i ++ [n] ++ xs.drop i = putL n xs := by
      rw [zeg_ hi hpre hnot, if_neg hne, List.append_assoc]
      rfl
    rw [e] at H ⊢
    exact hK w5 X3 d3 H.gr ((IntsF.of_own (H.own 0 rfl)).mono fun q hq => hF q hq.1) (H.row 0 rfl).cap.1
  by_cases hlt : i < xs.length
  · have hlt' : (i : Int) < xs.length := by omega
    have := hi0.le
    simp only [hlt', decide_true, zq18, zq19, zq20, zq21, zq22, zq23, zq24, zq25, zq26, zq27, zq28, zq4, zq3, zq1, zq2, zq0, zq29, zq30, zq14, zq15, zq16, zq17, zq13, zq10, zq12, zq11, zq7, zq5, zq6, zq9, zq8, zq31, zq32, ite_T, ite_F, zq33, zq34, zq35, Nat.reduceEqDiff, len22, len24, fa26_0, fa26_1, fa26_2, len27, len35, fa86_0, fa86_1, fa86_2, fa97_0, fa97_1, fa106_0, fa106_1, fa145_0, fa145_1, fa145_2, fa145_3, fa145_4, len192]
    rw [zwb_ hi0.ptr hlt, ld3 (hi0.cell i hlt)]
    simp only [zq18, zq19, zq20, zq21, zq22, zq23, zq24, zq25, zq26, zq27, zq28, zq4, zq3, zq1, zq2, zq0, zq29, zq30, zq14, zq15, zq16, zq17, zq13, zq10, zq12, zq11, zq7, zq5, zq6, zq9, zq8, zq31, zq32, ite_T, ite_F, zq33, zq34, zq35, Nat.reduceEqDiff, len22, len24, fa26_0, fa26_1, fa26_2, len27, len35, fa86_0, fa86_1, fa86_2, fa97_0, fa97_1, fa106_0, fa106_1, fa145_0, fa145_1, fa145_2, fa145_3, fa145_4, len192]
    by_cases hlt2 : xs.getD i 0 < n
    · simp only [hlt2, decide_true, zq18, zq19, zq20, zq21, zq22, zq23, zq24, zq25, zq26, zq27, zq28, zq4, zq3, zq1, zq2, zq0, zq29, zq30, zq14, zq15, zq16, zq17, zq13, zq10, zq12, zq11, zq7, zq5, zq6, zq9, zq8, zq31, zq32, ite_T, ite_F, zq33, zq34, zq35, Nat.reduceEqDiff, len22, len24, fa26_0, fa26_1, fa26_2, len27, len35, fa86_0, fa86_1, fa86_2, fa97_0, fa97_1, fa106_0, fa106_1, fa145_0, fa145_1, fa145_2, fa145_3, fa145_4, len192]
      rw [zm_ (by omega) (by omega)]
      refine hN _ _ hlt ⟨by omega, rfl, rfl, fun j hj => ?_⟩
      rcases Nat.lt_succ_iff_lt_or_eq.1 hj with h | rfl
      · exact hpre j h
      · exact hlt2
    · simp only [hlt2, decide_false, h0, h1, h5, zq18, zq19, zq20, zq21, zq22, zq23, zq24, zq25, zq26, zq27, zq28, zq4, zq3, zq1, zq2, zq0, zq29, zq30, zq14, zq15, zq16, zq17, zq13, zq10, zq12, zq11, zq7, zq5, zq6, zq9, zq8, zq31, zq32, ite_T, ite_F, zq33, zq34, zq35, Nat.reduceEqDiff, len22, len24, fa26_0, fa26_1, fa26_2, len27, len35, fa86_0, fa86_1, fa86_2, fa97_0, fa97_1, fa106_0, fa106_1, fa145_0, fa145_1, fa145_2, fa145_3, fa145_4, len192]
      rw [zwb_ hi0.ptr hlt, ld3 (hi0.cell i hlt)]
      simp only [zq18, zq19, zq20, zq21, zq22, zq23, zq24, zq25, zq26, zq27, zq28, zq4, zq3, zq1, zq2, zq0, zq29, zq30, zq14, zq15, zq16, zq17, zq13, zq10, zq12, zq11, zq7, zq5, zq6, zq9, zq8, zq31, zq32, ite_T, ite_F, zq33, zq34, zq35, Nat.reduceEqDiff, len22, len24, fa26_0, fa26_1, fa26_2, len27, len35, fa86_0, fa86_1, fa86_2, fa97_0, fa97_1, fa106_0, fa106_1, fa145_0, fa145_1, fa145_2, fa145_3, fa145_4, len192]
      by_cases he : xs.getD i 0 = n
      · simp only [he, decide_true, zq18, zq19, zq20, zq21, zq22, zq23, zq24, zq25, zq26, zq27, zq28, zq4, zq3, zq1, zq2, zq0, zq29, zq30, zq14, zq15, zq16, zq17, zq13, zq10, zq12, zq11, zq7, zq5, zq6, zq9, zq8, zq31, zq32, ite_T, ite_F, zq33, zq34, zq35, Nat.reduceEqDiff, len22, len24, fa26_0, fa26_1, fa26_2, len27, len35, fa86_0, fa86_1, fa86_2, fa97_0, fa97_1, fa106_0, fa106_1, fa145_0, fa145_1, fa145_2, fa145_3, fa145_4, len192]
        have e : putL n xs = xs := by rw [zeg_ hi hpre (fun _ => hlt2), if_pos ⟨hlt, he⟩]
        have := hk w1 X c (Gr.refl _)
        rw [e] at this
        exact this hx hc
      · simp only [he, decide_false, zq18, zq19, zq20, zq21, zq22, zq23, zq24, zq25, zq26, zq27, zq28, zq4, zq3, zq1, zq2, zq0, zq29, zq30, zq14, zq15, zq16, zq17, zq13, zq10, zq12, zq11, zq7, zq5, zq6, zq9, zq8, zq31, zq32, ite_T, ite_F, zq33, zq34, zq35, Nat.reduceEqDiff, len22, len24, fa26_0, fa26_1, fa26_2, len27, len35, fa86_0, fa86_1, fa86_2, fa97_0, fa97_1, fa106_0, fa106_1, fa145_0, fa145_1, fa145_2, fa145_3, fa145_4, len192]
        exact fin (fun _ => hlt2) k hk (fun h => he h.2)
  · simp only [show ¬ (i : Int) < xs.length from by omega, decide_false, h0, h1, h5, zq18, zq19, zq20, zq21, zq22, zq23, zq24, zq25, zq26, zq27, zq28, zq4, zq3, zq1, zq2, zq0, zq29, zq30, zq14, zq15, zq16, zq17, zq13, zq10, zq12, zq11, zq7, zq5, zq6, zq9, zq8, zq31, zq32, ite_T, ite_F, zq33, zq34, zq35, Nat.reduceEqDiff, len22, len24, fa26_0, fa26_1, fa26_2, len27, len35, fa86_0, fa86_1, fa86_2, fa97_0, fa97_1, fa106_0, fa106_1, fa145_0, fa145_1, fa145_2, fa145_3, fa145_4, len192]
    exact fin (fun h => absurd h hlt) k hk (fun h => hlt h.1)
def slg (G : Nat → Prop) (bX n : Nat) (fs : List (List Int)) : Thing := ⟨fun w => ∃ cells, Row w 0 27 1 (some ⟨bX, 0, none⟩) n n cells ∧ Slots (fun q => G q ∧ q ≠ bX) w fs cells, fun q => q = bX ∨ G q⟩
section
variable {w0 w w' : World} {L : List Thing} {k : Value → World → Prop}
theorem slotsAt (H : Apt w0 w L) (i : Nat) {G : Nat → Prop} {bX n : Nat} {fs : List (List Int)} (hi : L[i]? = some (slg G bX n fs)) : ∃ cells, Row w 0 27 1 (some ⟨bX, 0, none⟩) n n cells ∧ Slots (fun q => G q ∧ q ≠ bX) w fs cells := H.get i hi
theorem slotsIs (H : Apt w0 w L) (i : Nat) {G : Nat → Prop} {bX n : Nat} {fs : List (List Int)} (hi : L[i]? = some (slg G bX n fs)) (hn : fs.length ≤ 9223372036854775807) : Intss w (some ⟨bX, 0, none⟩) fs := by
  obtain ⟨cells, hr, hs⟩ := slotsAt H i hi
  exact IssF.is (IssF.of (F := fun _ => True) (Row.src hr) (hs.mono fun _ _ => trivial) hn fun _ => trivial)
theorem slg_kept {G : Nat → Prop} {bX n : Nat} {fs : List (List Int)} (h : (slg G bX n fs).P w) : ∀ w', (∀ q, (slg G bX n fs).ft q → w'.heap[q]? = w.heap[q]?) → (slg G bX n fs).P w' := fun w' hq => by
  obtain ⟨cells, hr, hs⟩ := h
  refine ⟨cells, hr.same fun q e => hq q (.inl ?_), hs.len, fun j v hv => ?_⟩
  · injection e with e
    exact e.symm
  · obtain ⟨Y, c, h1, h2, h3⟩ := hs.cell j v hv
    exact ⟨Y, c, h1, h2, h3.same fun q hg => hq q (.inr hg.1)⟩
def rdI (B S : Nat) (X : Option Addr) (c : Nat) (xs : List Int) : Thing := ⟨fun w => IntsF (fun q => B ≤ q ∧ q < S) w X xs ∧ xs.length ≤ c, fun q => B ≤ q ∧ q < S⟩
theorem addRdI (H : Apt w0 w L) (g : Gr w w') {X : Option Addr} {c : Nat} {xs : List Int} (h : IntsF (fun q => w.heap.size ≤ q) w' X xs) (hc : xs.length ≤ c) : Apt w0 w' (L ++ [rdI w.heap.size w'.heap.size X c xs]) :=
  H.add g _ (fun q hq => hq.1) (fun q hq => hq.2) fun w'' hq => ⟨((IntsF.lt h).mono fun q hq => ⟨hq.1, hq.2⟩).same hq, hc⟩
theorem rdIAt (H : Apt w0 w L) (i : Nat) {B S c : Nat} {X : Option Addr} {xs : List Int} (hi : L[i]? = some (rdI B S X c xs)) : kI X xs c w := by
  have h : (rdI B S X c xs).P w := H.get i hi
  exact ⟨h.1.is, h.2⟩
theorem slotsNew (H : Apt w0 w L) {n : Nat} (hm : n ≤ 1000000) (h : ∀ bX w', Apt w0 w' (L ++ [slg (fun _ => False) bX n (List.replicate n [])]) → k (.slice (some ⟨bX, 0, none⟩) n n) w') : Do Try.prog (zrc_ 35 (.int .i64 n) (.int .i64 n)) k w := by
  refine zak_ u35 inf27 (by omega) (by omega) fun b w' hb hb' g hr => ?_
  have hr := hr 0 (Nat.zero_le _)
  rw [show (madeCells (Value.slice none 0 0).cells (n * 1)).toList = List.replicate n (.slice none 0 0) from zbg_ _ _] at hr
  have hP : (slg (fun _ => False) b n (List.replicate n [])).P w' := ⟨_, hr, Slots.nils _ _ _⟩
  exact h b w' (H.add g _ (fun q hq => by rcases hq with rfl | hq; exact hb; exact hq.elim) (fun q hq => by rcases hq with rfl | hq; exact hb'; exact hq.elim) (slg_kept hP))
theorem slotPut (H : Apt w0 w L) (i : Nat) {G : Nat → Prop} {j n bX d : Nat} {Y : Option Addr} {ys : List Int} {fs : List (List Int)} (hi : L[i]? = some (slg G bX n fs)) (g : Gr w w') (hn : fs.length = n) (hj : j < n) (hY : IntsF (fun q => (G q ∧ q ≠ bX) ∨ w.heap.size ≤ q) w' Y ys) (hd : ys.length ≤ d)
    (h : ∀ w'' G', Apt w0 w'' (L.set i (slg G' bX n (fs.set j ys))) → k undef w'') : Do Try.prog (zu_ 27 (.pointer (some ((ad (some ⟨bX, 0, none⟩)).add j))) (.slice Y ys.length d)) k w' := by
  have H' := H.step g
  obtain ⟨cells, hr0, hs0⟩ := slotsAt H' i hi
  have hb0 : bX < w.heap.size := (H.ok i _ hi).hi bX (.inl rfl)
  refine zme_ sz27 rfl rfl hr0 (by omega) fun w'' g2 hs2 hr => ?_
  have hY' : IntsF (fun q => (G q ∨ (w.heap.size ≤ q ∧ q < w'.heap.size)) ∧ q ≠ bX) w' Y ys := (IntsF.lt hY).mono fun q hq => by
    rcases hq.1 with h1 | h1
    · exact ⟨.inl h1.1, h1.2⟩
    · exact ⟨.inr ⟨h1, hq.2⟩, by omega⟩
  have hP : (slg (fun q => G q ∨ (w.heap.size ≤ q ∧ q < w'.heap.size)) bX n (fs.set j ys)).P w'' :=
    ⟨_, hr, ((hs0.mono (E := fun q => (G q ∨ (w.heap.size ≤ q ∧ q < w'.heap.size)) ∧ q ≠ bX) fun q hq => ⟨.inl hq.1, hq.2⟩).put (by omega) hY' hd).other g2 fun q hq e => hq.2 (by injection e with e; exact e.symm)⟩
  refine h w'' _ (H.set (it := slg G bX n fs) hi ?_ (fun q hq => ?_) (fun q hq => ?_) (slg_kept hP))
  · refine ⟨g2.os.trans g.os, g2.tape.trans g.tape, g2.output.trans g.output, Nat.le_trans g.size g2.size, fun q hq hn => ?_⟩
    rw [g2.block q (Nat.lt_of_lt_of_le hq g.size) (fun e => hn (.inl (by injection e))), g.block q hq (by simp)]
  · rcases hq with hq | hq | hq
    · exact .inl (.inl hq)
    · exact .inl (.inr hq)
    · exact .inr hq.1
  · rcases hq with hq | hq | hq
    · have := g.size
      omega
    · have := (H.ok i _ hi).hi q (.inr hq)
      have := g.size
      omega
    · omega
end
section
variable {w : World} {k : Value → World → Prop} {Y X Z : Option Addr} {cy cx cz : Nat} {gm : Gram} {xs : List Int}
theorem l14Null_c (hG : kG Y cy gm.rules w) (hg : zab_ gm = true) (hX : kI X xs cx w) (hx : ∀ x ∈ xs, x < gm.nons) (hk : ∀ w', Gr w w' → k (.bool (nulV gm xs)) w') :
    CallK Try.prog 52 [grv gm Y cy, .slice X xs.length cx] k w := by
  refine enter52 ?_
  unfold S52
  have hgr := zmd_ hg
  have hn := zjc_ hg
  have H := ((Kn.nil w).addG hG.1 hG.2).addI hX.1 hX.2
  refine zub_ fun b1 w1 g1 hb B1 => ?_
  have H := (H.step g1).addB B1
  simp only [List.cons_append, List.nil_append] at H
  rw [zw_ zmb_ sz26 rfl (H.get 3 rfl)]
  refine zch_ (gm := gm) (H.get 1 rfl) (by omega) (fun r hr => (hgr r hr).1) (fun r hr => by have := (hgr r hr).2.1; omega) fun w2 U d g hU => ?_
  have H := (H.step g).add (P := fun w' => kI U (cloV gm false) d w') fun w' g => ⟨hU.1.gr g, hU.2⟩
  simp only [List.cons_append, List.nil_append] at H
  simp only [zq18, zq19, zq20, zq21, zq22, zq23, zq24, zq25, zq26, zq27, zq28, zq4, zq3, zq1, zq2, zq0, zq29, zq30, zq14, zq15, zq16, zq17, zq13, zq10, zq12, zq11, zq7, zq5, zq6, zq9, zq8, zq31, zq32, ite_T, ite_F, zq33, zq34, zq35, Nat.reduceEqDiff, len22, len24, fa26_0, fa26_1, fa26_2, len27, len35, fa86_0, fa86_1, fa86_2, fa97_0, fa97_1, fa106_0, fa106_1, fa145_0, fa145_1, fa145_2, fa145_3, fa145_4, len192]
  have hmem : ∀ x : Int, ¬ x < 0 → x < gm.nons → (x ∈ cloV gm false ↔ Clo gm.rules false x.toNat) := fun x h0 h1 => by
    unfold cloV
    rw [setL_mem]
    constructor
    · rintro ⟨a, rfl, _, h⟩
      simpa using h
    · exact fun h => ⟨x.toNat, by omega, by omega, h⟩
  refine zhb_ xs.length 0 (fun i f w' => i ≤ xs.length ∧ f 12 = .int .i64 (i : Int) ∧ Gr w2 w' ∧ Nulls gm.rules (xs.take i)) ⟨Nat.zero_le _, rfl, Gr.refl _, fun x hx => by simp at hx⟩ ?_
  rintro i f w3 N hag ⟨hi, f12, hg3, hpre⟩ hN
  have H := H.step hg3
  have f5 : f 5 = .slice U (cloV gm false).length d := hag 5 (by decide)
  have f10 : f 10 = .slice X xs.length cx := hag 10 (by decide)
  have f11 : f 11 = .int .i64 xs.length := hag 11 (by decide)
  have hXi := (H.get 2 rfl).1
  have hle := hXi.le
  simp only [f5, f10, f11, f12, zq18, zq19, zq20, zq21, zq22, zq23, zq24, zq25, zq26, zq27, zq28, zq4, zq3, zq1, zq2, zq0, zq29, zq30, zq14, zq15, zq16, zq17, zq13, zq10, zq12, zq11, zq7, zq5, zq6, zq9, zq8, zq31, zq32, ite_T, ite_F, zq33, zq34, zq35, Nat.reduceEqDiff, len22, len24, fa26_0, fa26_1, fa26_2, len27, len35, fa86_0, fa86_1, fa86_2, fa97_0, fa97_1, fa106_0, fa106_1, fa145_0, fa145_1, fa145_2, fa145_3, fa145_4, len192]
  by_cases hlt : i < xs.length
  case neg =>
    simp only [show ¬ ((i : Int) < (xs.length : Int)) from by omega, decide_false, zq18, zq19, zq20, zq21, zq22, zq23, zq24, zq25, zq26, zq27, zq28, zq4, zq3, zq1, zq2, zq0, zq29, zq30, zq14, zq15, zq16, zq17, zq13, zq10, zq12, zq11, zq7, zq5, zq6, zq9, zq8, zq31, zq32, ite_T, ite_F, zq33, zq34, zq35, Nat.reduceEqDiff, len22, len24, fa26_0, fa26_1, fa26_2, len27, len35, fa86_0, fa86_1, fa86_2, fa97_0, fa97_1, fa106_0, fa106_1, fa145_0, fa145_1, fa145_2, fa145_3, fa145_4, len192]
    have := hk _ (H.get 0 rfl)
    rw [List.take_of_length_le (by omega)] at hpre
    rwa [nulV_iff.2 hpre] at this
  simp only [show ((i : Int) < (xs.length : Int)) from by omega, decide_true, zq18, zq19, zq20, zq21, zq22, zq23, zq24, zq25, zq26, zq27, zq28, zq4, zq3, zq1, zq2, zq0, zq29, zq30, zq14, zq15, zq16, zq17, zq13, zq10, zq12, zq11, zq7, zq5, zq6, zq9, zq8, zq31, zq32, ite_T, ite_F, zq33, zq34, zq35, Nat.reduceEqDiff, len22, len24, fa26_0, fa26_1, fa26_2, len27, len35, fa86_0, fa86_1, fa86_2, fa97_0, fa97_1, fa106_0, fa106_1, fa145_0, fa145_1, fa145_2, fa145_3, fa145_4, len192]
  rw [zwb_ hXi.ptr hlt, ld3 (hXi.cell i hlt)]
  simp only [zq18, zq19, zq20, zq21, zq22, zq23, zq24, zq25, zq26, zq27, zq28, zq4, zq3, zq1, zq2, zq0, zq29, zq30, zq14, zq15, zq16, zq17, zq13, zq10, zq12, zq11, zq7, zq5, zq6, zq9, zq8, zq31, zq32, ite_T, ite_F, zq33, zq34, zq35, Nat.reduceEqDiff, len22, len24, fa26_0, fa26_1, fa26_2, len27, len35, fa86_0, fa86_1, fa86_2, fa97_0, fa97_1, fa106_0, fa106_1, fa145_0, fa145_1, fa145_2, fa145_3, fa145_4, len192]
  have hxm : xs.getD i 0 ∈ xs := zec_ hlt
  have hxb := hx _ hxm
  have no : (xs.getD i 0 < 0 ∨ xs.getD i 0 ∉ cloV gm false) → nulV gm xs = false := fun h => by
    rw [Bool.eq_false_iff]
    intro hc
    obtain ⟨h1, h2⟩ := nulV_iff.1 hc _ hxm
    exact h.elim h1 fun h => h ((hmem _ h1 hxb).2 h2)
  by_cases hneg : xs.getD i 0 < 0
  · simp only [hneg, decide_true, zq18, zq19, zq20, zq21, zq22, zq23, zq24, zq25, zq26, zq27, zq28, zq4, zq3, zq1, zq2, zq0, zq29, zq30, zq14, zq15, zq16, zq17, zq13, zq10, zq12, zq11, zq7, zq5, zq6, zq9, zq8, zq31, zq32, ite_T, ite_F, zq33, zq34, zq35, Nat.reduceEqDiff, len22, len24, fa26_0, fa26_1, fa26_2, len27, len35, fa86_0, fa86_1, fa86_2, fa97_0, fa97_1, fa106_0, fa106_1, fa145_0, fa145_1, fa145_2, fa145_3, fa145_4, len192]
    have := hk _ (H.get 0 rfl)
    rwa [no (.inl hneg)] at this
  simp only [hneg, decide_false, zq18, zq19, zq20, zq21, zq22, zq23, zq24, zq25, zq26, zq27, zq28, zq4, zq3, zq1, zq2, zq0, zq29, zq30, zq14, zq15, zq16, zq17, zq13, zq10, zq12, zq11, zq7, zq5, zq6, zq9, zq8, zq31, zq32, ite_T, ite_F, zq33, zq34, zq35, Nat.reduceEqDiff, len22, len24, fa26_0, fa26_1, fa26_2, len27, len35, fa86_0, fa86_1, fa86_2, fa97_0, fa97_1, fa106_0, fa106_1, fa145_0, fa145_1, fa145_2, fa145_3, fa145_4, len192]
  refine zjf_ (H.get 4 rfl).1 fun w4 g => ?_
  have H := H.step g
  by_cases hin : xs.getD i 0 ∈ cloV gm false
  · simp only [hin, decide_true, Bool.not_true, f12, zq18, zq19, zq20, zq21, zq22, zq23, zq24, zq25, zq26, zq27, zq28, zq4, zq3, zq1, zq2, zq0, zq29, zq30, zq14, zq15, zq16, zq17, zq13, zq10, zq12, zq11, zq7, zq5, zq6, zq9, zq8, zq31, zq32, ite_T, ite_F, zq33, zq34, zq35, Nat.reduceEqDiff, len22, len24, fa26_0, fa26_1, fa26_2, len27, len35, fa86_0, fa86_1, fa86_2, fa97_0, fa97_1, fa106_0, fa106_1, fa145_0, fa145_1, fa145_2, fa145_3, fa145_4, len192]
    rw [zm_ (by omega) (by omega)]
    refine hN _ _ hlt ⟨by omega, rfl, zf_ hg3 g, ?_⟩
    rw [zmc_ hlt]
    intro x hx'
    rcases List.mem_append.1 hx' with h | h
    · exact hpre x h
    · rw [List.mem_singleton.1 h]
      exact ⟨hneg, (hmem _ hneg hxb).1 hin⟩
  · simp only [hin, decide_false, Bool.not_false, zq18, zq19, zq20, zq21, zq22, zq23, zq24, zq25, zq26, zq27, zq28, zq4, zq3, zq1, zq2, zq0, zq29, zq30, zq14, zq15, zq16, zq17, zq13, zq10, zq12, zq11, zq7, zq5, zq6, zq9, zq8, zq31, zq32, ite_T, ite_F, zq33, zq34, zq35, Nat.reduceEqDiff, len22, len24, fa26_0, fa26_1, fa26_2, len27, len35, fa86_0, fa86_1, fa86_2, fa97_0, fa97_1, fa106_0, fa106_1, fa145_0, fa145_1, fa145_2, fa145_3, fa145_4, len192]
    have := hk _ (H.get 0 rfl)
    rwa [no (.inr hin)] at this
structure RowsOk (toks : Int) (fs : List (List Int)) : Prop where
  tok : ∀ A, A < fs.length → ∀ t ∈ rgt fs A, 0 ≤ t ∧ t < toks
set_option maxHeartbeats 3200000 in
theorem zcm_ {fs : List (List Int)} {n : Nat} (hG : kG Y cy gm.rules w) (hg : zab_ gm = true) (hZ : Intss w Z fs) (hn' : n = fs.length) (hfl : fs.length = gm.nons.toNat) (hfs : ∀ A, A < fs.length → ∀ t ∈ rgt fs A, 0 ≤ t ∧ t < gm.toks) (hX : kI X xs cx w) (hx : ∀ x ∈ xs, -gm.toks ≤ x ∧ x < gm.nons)
    (hk : ∀ w' U d out, Gr w w' → zjd_ out → (∀ t, t ∈ out ↔ Fsq (Clo gm.rules false) (FL fs) xs t) → IntsF (fun q => w.heap.size ≤ q) w' U out → out.length ≤ d → k (.slice U out.length d) w') :
    CallK Try.prog 113 [grv gm Y cy, .slice Z n cz, .slice X xs.length cx] k w := by
  subst hn'
  refine enter113 ?_
  unfold S113
  have hgr := zmd_ hg
  have hn := zjc_ hg
  have htk := zdd_ hg
  have H := ((Kn.nil w).addG hG.1 hG.2).addI hX.1 hX.2
  have H := H.add (P := fun w' => Intss w' Z fs) fun w' g => hZ.gr g
  refine zub_ fun b1 w1 g1 hb B1 => ?_
  have H := (H.step g1).addB B1
  simp only [List.cons_append, List.nil_append] at H
  rw [zw_ zmb_ sz26 rfl (H.get 4 rfl)]
  refine zch_ (gm := gm) (H.get 1 rfl) (by omega) (fun r hr => (hgr r hr).1) (fun r hr => by have := (hgr r hr).2.1; omega) fun w2 U d g hU => ?_
  have H := (H.step g).add (P := fun w' => kI U (cloV gm false) d w') fun w' g => ⟨hU.1.gr g, hU.2⟩
  simp only [List.cons_append, List.nil_append] at H
  simp only [zq18, zq19, zq20, zq21, zq22, zq23, zq24, zq25, zq26, zq27, zq28, zq4, zq3, zq1, zq2, zq0, zq29, zq30, zq14, zq15, zq16, zq17, zq13, zq10, zq12, zq11, zq7, zq5, zq6, zq9, zq8, zq31, zq32, ite_T, ite_F, zq33, zq34, zq35, Nat.reduceEqDiff, len22, len24, fa26_0, fa26_1, fa26_2, len27, len35, fa86_0, fa86_1, fa86_2, fa97_0, fa97_1, fa106_0, fa106_1, fa145_0, fa145_1, fa145_2, fa145_3, fa145_4, len192]
  have hmem : ∀ x : Int, ¬ x < 0 → x < gm.nons → (x ∈ cloV gm false ↔ Clo gm.rules false x.toNat) := fun x h0 h1 => by
    unfold cloV
    rw [setL_mem]
    constructor
    · rintro ⟨a, rfl, _, h⟩
      simpa using h
    · exact fun h => ⟨x.toNat, by omega, by omega, h⟩
  have hlen4 : ∀ out : List Int, zjd_ out → (∀ t ∈ out, 0 ≤ t ∧ t < gm.toks) → out.length ≤ 4 := fun out h1 h2 => by
    have := zuj_ h1 h2 (by omega)
    omega
  refine zhb_ xs.length 0 (fun i f w' => i ≤ xs.length ∧ f 17 = .int .i64 (i : Int) ∧ Gr w2 w' ∧ ∃ (V : Option Addr) (e : Nat) (out : List Int), f 8 = .slice V out.length e ∧ zjd_ out ∧ (∀ t ∈ out, 0 ≤ t ∧ t < gm.toks) ∧ (IntsF (fun q => w.heap.size ≤ q) w' V out ∧ out.length ≤ e) ∧
      ∀ t, (t ∈ out ∨ Fsq (Clo gm.rules false) (FL fs) (xs.drop i) t) ↔ Fsq (Clo gm.rules false) (FL fs) xs t)
    ⟨Nat.zero_le _, rfl, Gr.refl _, none, 0, [], rfl, .nil, (fun t ht => by simp at ht), ⟨IntsF.nil _ _, Nat.le_refl _⟩, fun t => by simp⟩ ?_
  rintro i f w3 N hag ⟨hi, f17, hg3, V, e, out, f8, hR, hB, hV, hset⟩ hN
  have H := H.step hg3
  have f1 : f 1 = .slice Z fs.length cz := hag 1 (by decide)
  have f7 : f 7 = .slice U (cloV gm false).length d := hag 7 (by decide)
  have f15 : f 15 = .slice X xs.length cx := hag 15 (by decide)
  have f16 : f 16 = .int .i64 xs.length := hag 16 (by decide)
  have hXi := (H.get 2 rfl).1
  have hle := hXi.le
  simp only [f1, f7, f8, f15, f16, f17, zq18, zq19, zq20, zq21, zq22, zq23, zq24, zq25, zq26, zq27, zq28, zq4, zq3, zq1, zq2, zq0, zq29, zq30, zq14, zq15, zq16, zq17, zq13, zq10, zq12, zq11, zq7, zq5, zq6, zq9, zq8, zq31, zq32, ite_T, ite_F, zq33, zq34, zq35, Nat.reduceEqDiff, len22, len24, fa26_0, fa26_1, fa26_2, len27, len35, fa86_0, fa86_1, fa86_2, fa97_0, fa97_1, fa106_0, fa106_1, fa145_0, fa145_1, fa145_2, fa145_3, fa145_4, len192]
  by_cases hlt : i < xs.length
  case neg =>
    simp only [show ¬ ((i : Int) < (xs.length : Int)) from by omega, decide_false, f8, zq18, zq19, zq20, zq21, zq22, zq23, zq24, zq25, zq26, zq27, zq28, zq4, zq3, zq1, zq2, zq0, zq29, zq30, zq14, zq15, zq16, zq17, zq13, zq10, zq12, zq11, zq7, zq5, zq6, zq9, zq8, zq31, zq32, ite_T, ite_F, zq33, zq34, zq35, Nat.reduceEqDiff, len22, len24, fa26_0, fa26_1, fa26_2, len27, len35, fa86_0, fa86_1, fa86_2, fa97_0, fa97_1, fa106_0, fa106_1, fa145_0, fa145_1, fa145_2, fa145_3, fa145_4, len192]
    have e0 : xs.drop i = [] := List.drop_eq_nil_of_le (by omega)
    rw [e0] at hset
    exact hk _ V e out (H.get 0 rfl) hR (fun t => by rw [← hset t]; exact ⟨.inl, fun h => h.elim id fun h => h.elim⟩) hV.1 hV.2
  simp only [show ((i : Int) < (xs.length : Int)) from by omega, decide_true, zq18, zq19, zq20, zq21, zq22, zq23, zq24, zq25, zq26, zq27, zq28, zq4, zq3, zq1, zq2, zq0, zq29, zq30, zq14, zq15, zq16, zq17, zq13, zq10, zq12, zq11, zq7, zq5, zq6, zq9, zq8, zq31, zq32, ite_T, ite_F, zq33, zq34, zq35, Nat.reduceEqDiff, len22, len24, fa26_0, fa26_1, fa26_2, len27, len35, fa86_0, fa86_1, fa86_2, fa97_0, fa97_1, fa106_0, fa106_1, fa145_0, fa145_1, fa145_2, fa145_3, fa145_4, len192]
  rw [zwb_ hXi.ptr hlt, ld3 (hXi.cell i hlt)]
  simp only [zq18, zq19, zq20, zq21, zq22, zq23, zq24, zq25, zq26, zq27, zq28, zq4, zq3, zq1, zq2, zq0, zq29, zq30, zq14, zq15, zq16, zq17, zq13, zq10, zq12, zq11, zq7, zq5, zq6, zq9, zq8, zq31, zq32, ite_T, ite_F, zq33, zq34, zq35, Nat.reduceEqDiff, len22, len24, fa26_0, fa26_1, fa26_2, len27, len35, fa86_0, fa86_1, fa86_2, fa97_0, fa97_1, fa106_0, fa106_1, fa145_0, fa145_1, fa145_2, fa145_3, fa145_4, len192]
  have hxm : xs.getD i 0 ∈ xs := zec_ hlt
  have hxb := hx _ hxm
  have hd : xs.drop i = xs.getD i 0 :: xs.drop (i + 1) := by
    rw [List.drop_eq_getElem_cons hlt, List.getD_eq_getElem?_getD, List.getElem?_eq_getElem hlt]
    rfl
  rw [hd] at hset
  generalize hxx : xs.getD i 0 = x at *
  by_cases hneg : x < 0
  · simp only [hneg, decide_true, zq18, zq19, zq20, zq21, zq22, zq23, zq24, zq25, zq26, zq27, zq28, zq4, zq3, zq1, zq2, zq0, zq29, zq30, zq14, zq15, zq16, zq17, zq13, zq10, zq12, zq11, zq7, zq5, zq6, zq9, zq8, zq31, zq32, ite_T, ite_F, zq33, zq34, zq35, Nat.reduceEqDiff, len22, len24, fa26_0, fa26_1, fa26_2, len27, len35, fa86_0, fa86_1, fa86_2, fa97_0, fa97_1, fa106_0, fa106_1, fa145_0, fa145_1, fa145_2, fa145_3, fa145_4, len192]
    rw [zm_ (by omega) (by omega)]
    have := hlen4 out hR hB
    refine zxj_ (F := fun q => w.heap.size ≤ q) (fun q hq => Nat.le_trans (H.get 0 rfl).size hq) hV.1 hV.2 (by omega) fun w4 U2 d2 g hU2 hd2 => ?_
    have H := H.step g
    refine hk w4 U2 d2 _ (H.get 0 rfl) (zah_ hR) (fun t => ?_) hU2 hd2
    rw [putL_mem, ← hset t]
    constructor
    · rintro (rfl | h)
      · exact .inr (.inl ⟨hneg, rfl⟩)
      · exact .inl h
    · rintro (h | ⟨_, h⟩ | ⟨h, _⟩)
      · exact .inr h
      · exact .inl h
      · exact absurd hneg h
  simp only [hneg, decide_false, zq18, zq19, zq20, zq21, zq22, zq23, zq24, zq25, zq26, zq27, zq28, zq4, zq3, zq1, zq2, zq0, zq29, zq30, zq14, zq15, zq16, zq17, zq13, zq10, zq12, zq11, zq7, zq5, zq6, zq9, zq8, zq31, zq32, ite_T, ite_F, zq33, zq34, zq35, Nat.reduceEqDiff, len22, len24, fa26_0, fa26_1, fa26_2, len27, len35, fa86_0, fa86_1, fa86_2, fa97_0, fa97_1, fa106_0, fa106_1, fa145_0, fa145_1, fa145_2, fa145_3, fa145_4, len192]
  have hxl : x.toNat < fs.length := by omega
  obtain ⟨W, cw, u1, u2, u3⟩ := (H.get 3 rfl).row x.toNat hxl
  have hxe : x = ((x.toNat : Nat) : Int) := by omega
  rw [hxe, ixn35 (H.get 3 rfl).ptr hxl, ld27 u1]
  rw [← hxe]
  simp only [zq18, zq19, zq20, zq21, zq22, zq23, zq24, zq25, zq26, zq27, zq28, zq4, zq3, zq1, zq2, zq0, zq29, zq30, zq14, zq15, zq16, zq17, zq13, zq10, zq12, zq11, zq7, zq5, zq6, zq9, zq8, zq31, zq32, ite_T, ite_F, zq33, zq34, zq35, Nat.reduceEqDiff, len22, len24, fa26_0, fa26_1, fa26_2, len27, len35, fa86_0, fa86_1, fa86_2, fa97_0, fa97_1, fa106_0, fa106_1, fa145_0, fa145_1, fa145_2, fa145_3, fa145_4, len192]
  have hrow := hfs x.toNat hxl
  have hFLx : ∀ t, FL fs x.toNat t ↔ t ∈ rgt fs x.toNat := fun t => Iff.rfl
  generalize hrs : rgt fs x.toNat = rw_ at *
  refine zhb_ rw_.length 0 (fun j q w' => j ≤ rw_.length ∧ q 32 = .int .i64 (j : Int) ∧ Gr w3 w' ∧ ∃ (V : Option Addr) (e : Nat) (o2 : List Int), q 8 = .slice V o2.length e ∧ zjd_ o2 ∧ (∀ t ∈ o2, 0 ≤ t ∧ t < gm.toks) ∧ (IntsF (fun q => w.heap.size ≤ q) w' V o2 ∧ o2.length ≤ e) ∧
      ∀ t, t ∈ o2 ↔ t ∈ out ∨ t ∈ rw_.take j)
    ⟨Nat.zero_le _, rfl, Gr.refl _, V, e, out, f8, hR, hB, hV, fun t => by simp⟩ ?_
  rintro j q w4 N2 hag2 ⟨hj, q32, hg4, V2, e2, o2, q8, hR2, hB2, hV2, hset2⟩ hN2
  have H := H.step hg4
  have q7 : q 7 = .slice U (cloV gm false).length d := (hag2 7 (by decide)).trans f7
  have q10 : q 10 = .int .i64 x := hag2 10 (by decide)
  have q17 : q 17 = .int .i64 (i : Int) := (hag2 17 (by decide)).trans f17
  have q30 : q 30 = .slice W rw_.length cw := hag2 30 (by decide)
  have q31 : q 31 = .int .i64 rw_.length := hag2 31 (by decide)
  have hW := u3.gr hg4
  have hwl := hW.le
  simp only [q7, q8, q10, q17, q30, q31, q32, zq18, zq19, zq20, zq21, zq22, zq23, zq24, zq25, zq26, zq27, zq28, zq4, zq3, zq1, zq2, zq0, zq29, zq30, zq14, zq15, zq16, zq17, zq13, zq10, zq12, zq11, zq7, zq5, zq6, zq9, zq8, zq31, zq32, ite_T, ite_F, zq33, zq34, zq35, Nat.reduceEqDiff, len22, len24, fa26_0, fa26_1, fa26_2, len27, len35, fa86_0, fa86_1, fa86_2, fa97_0, fa97_1, fa106_0, fa106_1, fa145_0, fa145_1, fa145_2, fa145_3, fa145_4, len192]
  by_cases hjl : j < rw_.length
  · simp only [show ((j : Int) < (rw_.length : Int)) from by omega, decide_true, zq18, zq19, zq20, zq21, zq22, zq23, zq24, zq25, zq26, zq27, zq28, zq4, zq3, zq1, zq2, zq0, zq29, zq30, zq14, zq15, zq16, zq17, zq13, zq10, zq12, zq11, zq7, zq5, zq6, zq9, zq8, zq31, zq32, ite_T, ite_F, zq33, zq34, zq35, Nat.reduceEqDiff, len22, len24, fa26_0, fa26_1, fa26_2, len27, len35, fa86_0, fa86_1, fa86_2, fa97_0, fa97_1, fa106_0, fa106_1, fa145_0, fa145_1, fa145_2, fa145_3, fa145_4, len192]
    rw [zwb_ hW.ptr hjl, ld3 (hW.cell j hjl)]
    have := hlen4 o2 hR2 hB2
    refine zxj_ (F := fun q => w.heap.size ≤ q) (fun q hq => Nat.le_trans (H.get 0 rfl).size hq) hV2.1 hV2.2 (by omega) fun w5 U2 d2 g hU2 hd2 => ?_
    rw [zm_ (by omega) (by omega)]
    have hm := zec_ hjl
    refine hN2 _ _ hjl ⟨by omega, rfl, zf_ hg4 g, U2, d2, _, rfl, zah_ hR2, fun t ht => ?_, ⟨hU2, hd2⟩, fun t => ?_⟩
    · rcases putL_mem.1 ht with rfl | ht
      · exact hrow _ hm
      · exact hB2 t ht
    · rw [putL_mem, hset2, zmc_ hjl, List.mem_append, List.mem_singleton]
      constructor
      · rintro (h | h | h)
        · exact .inr (.inr h)
        · exact .inl h
        · exact .inr (.inl h)
      · rintro (h | h | h)
        · exact .inr (.inl h)
        · exact .inr (.inr h)
        · exact .inl h
  simp only [show ¬ ((j : Int) < (rw_.length : Int)) from by omega, decide_false, q7, q8, q10, q17, zq18, zq19, zq20, zq21, zq22, zq23, zq24, zq25, zq26, zq27, zq28, zq4, zq3, zq1, zq2, zq0, zq29, zq30, zq14, zq15, zq16, zq17, zq13, zq10, zq12, zq11, zq7, zq5, zq6, zq9, zq8, zq31, zq32, ite_T, ite_F, zq33, zq34, zq35, Nat.reduceEqDiff, len22, len24, fa26_0, fa26_1, fa26_2, len27, len35, fa86_0, fa86_1, fa86_2, fa97_0, fa97_1, fa106_0, fa106_1, fa145_0, fa145_1, fa145_2, fa145_3, fa145_4, len192]
  rw [List.take_of_length_le (by omega)] at hset2
  refine zjf_ (H.get 5 rfl).1 fun w5 g => ?_
  have H := H.step g
  have hV3 : IntsF (fun q => w.heap.size ≤ q) w5 V2 o2 ∧ o2.length ≤ e2 := ⟨hV2.1.gr g, hV2.2⟩
  by_cases hin : x ∈ cloV gm false
  · simp only [hin, decide_true, Bool.not_true, q17, zq18, zq19, zq20, zq21, zq22, zq23, zq24, zq25, zq26, zq27, zq28, zq4, zq3, zq1, zq2, zq0, zq29, zq30, zq14, zq15, zq16, zq17, zq13, zq10, zq12, zq11, zq7, zq5, zq6, zq9, zq8, zq31, zq32, ite_T, ite_F, zq33, zq34, zq35, Nat.reduceEqDiff, len22, len24, fa26_0, fa26_1, fa26_2, len27, len35, fa86_0, fa86_1, fa86_2, fa97_0, fa97_1, fa106_0, fa106_1, fa145_0, fa145_1, fa145_2, fa145_3, fa145_4, len192]
    rw [zm_ (by omega) (by omega)]
    refine hN _ _ hlt ⟨by omega, rfl, zf_ hg3 (zf_ hg4 g), V2, e2, o2, q8, hR2, hB2, hV3, fun t => ?_⟩
    rw [hset2, ← hset t]
    have hc := (hmem x hneg hxb.2).1 hin
    constructor
    · rintro ((h | h) | h)
      · exact .inl h
      · exact .inr (.inr ⟨hneg, .inl ((hFLx t).2 h)⟩)
      · exact .inr (.inr ⟨hneg, .inr ⟨hc, h⟩⟩)
    · rintro (h | ⟨h, _⟩ | ⟨_, h | ⟨_, h⟩⟩)
      · exact .inl (.inl h)
      · exact absurd h hneg
      · exact .inl (.inr ((hFLx t).1 h))
      · exact .inr h
  · simp only [hin, decide_false, Bool.not_false, q8, zq18, zq19, zq20, zq21, zq22, zq23, zq24, zq25, zq26, zq27, zq28, zq4, zq3, zq1, zq2, zq0, zq29, zq30, zq14, zq15, zq16, zq17, zq13, zq10, zq12, zq11, zq7, zq5, zq6, zq9, zq8, zq31, zq32, ite_T, ite_F, zq33, zq34, zq35, Nat.reduceEqDiff, len22, len24, fa26_0, fa26_1, fa26_2, len27, len35, fa86_0, fa86_1, fa86_2, fa97_0, fa97_1, fa106_0, fa106_1, fa145_0, fa145_1, fa145_2, fa145_3, fa145_4, len192]
    refine hk w5 V2 e2 o2 (H.get 0 rfl) hR2 (fun t => ?_) hV3.1 hV3.2
    rw [hset2, ← hset t]
    have hc : ¬ Clo gm.rules false x.toNat := fun h => hin ((hmem x hneg hxb.2).2 h)
    constructor
    · rintro (h | h)
      · exact .inl h
      · exact .inr (.inr ⟨hneg, .inl ((hFLx t).2 h)⟩)
    · rintro (h | ⟨h, _⟩ | ⟨_, h | ⟨h, _⟩⟩)
      · exact .inl h
      · exact absurd h hneg
      · exact .inr ((hFLx t).1 h)
      · exact absurd h hc
end
end Go.Proofs.Yteabbgaffgpegaa

namespace Go.Sh
open Go
def sumL (fs : List (List Int)) : Nat := (fs.map List.length).sum
theorem sumL_put : ∀ {fs : List (List Int)} {i : Nat} {ys : List Int}, i < fs.length → ys.length = (rgt fs i).length + 1 → sumL (fs.set i ys) = sumL fs + 1
  | [], _, _, h, _ => by simp at h
  | x :: fs, 0, ys, _, h => by
    simp only [sumL, List.set_cons_zero, List.map_cons, List.sum_cons, rgt, List.getD_cons_zero] at h ⊢
    omega
  | x :: fs, i + 1, ys, hi, h => by
    have := sumL_put (fs := fs) (i := i) (ys := ys) (by simpa using hi) (by simpa [rgt] using h)
    simp only [sumL, List.set_cons_succ, List.map_cons, List.sum_cons] at this ⊢
    omega
theorem sumL_le {m : Nat} : ∀ {fs : List (List Int)}, (∀ A, A < fs.length → (rgt fs A).length ≤ m) → sumL fs ≤ m * fs.length
  | [], _ => by simp [sumL]
  | x :: fs, h => by
    have h0 := h 0 (by simp)
    have ih := sumL_le (fs := fs) fun A hA => by have := h (A + 1) (by simpa using hA); simpa [rgt] using this
    simp only [sumL, List.map_cons, List.sum_cons, rgt, List.getD_cons_zero, List.length_cons, Nat.mul_add] at ih h0 ⊢
    omega
structure FsOk (gm : Gram) (fs : List (List Int)) : Prop where
  len : fs.length = gm.nons.toNat
  rise : ∀ A, A < fs.length → zjd_ (rgt fs A)
  ok : ∀ A, A < fs.length → ∀ t ∈ rgt fs A, Fst gm.rules (.inl A) t
def leF (fs gs : List (List Int)) : Prop := fs.length = gs.length ∧ ∀ A t, t ∈ rgt fs A → t ∈ rgt gs A
theorem leF.refl (fs : List (List Int)) : leF fs fs := ⟨rfl, fun _ _ h => h⟩
theorem leF.trans {a b c : List (List Int)} (h : leF a b) (g : leF b c) : leF a c := ⟨h.1.trans g.1, fun A t ht => g.2 A t (h.2 A t ht)⟩
section
variable {gm : Gram} {fs : List (List Int)}
theorem fst_tok {A : Nat} {t : Int} (hg : zab_ gm = true) (h : Fst gm.rules (.inl A) t) : 0 ≤ t ∧ t < gm.toks :=
  zih_ h (fun t => 0 ≤ t ∧ t < gm.toks) (fun r hr x hx h0 => by have := (zmd_ hg r hr).2.2 x hx; omega)
theorem FsOk.tok (h : FsOk gm fs) (hg : zab_ gm = true) : ∀ A, A < fs.length → ∀ t ∈ rgt fs A, 0 ≤ t ∧ t < gm.toks := fun A hA t ht => fst_tok hg (h.ok A hA t ht)
theorem FsOk.four (h : FsOk gm fs) (hg : zab_ gm = true) {A : Nat} (hA : A < fs.length) : (rgt fs A).length ≤ 4 := by
  have ht := zdd_ hg
  have := zuj_ (h.rise A hA) (h.tok hg A hA) (by omega)
  omega
theorem FsOk.put (h : FsOk gm fs) {A : Nat} {t : Int} (hA : A < fs.length) (ht : Fst gm.rules (.inl A) t) : FsOk gm (fs.set A (putL t (rgt fs A))) := by
  refine ⟨by rw [List.length_set]; exact h.len, fun B hB => ?_, fun B hB u hu => ?_⟩
  · rw [List.length_set] at hB
    rw [zmh_ hA]
    split
    · exact zah_ (h.rise A hA)
    · exact h.rise B hB
  · rw [List.length_set] at hB
    rw [zmh_ hA] at hu
    split at hu
    · rename_i e
      subst e
      rcases putL_mem.1 hu with rfl | hu
      · exact ht
      · exact h.ok B hA u hu
    · exact h.ok B hB u hu
theorem leF_put {A : Nat} {t : Int} (hA : A < fs.length) : leF fs (fs.set A (putL t (rgt fs A))) := by
  refine ⟨by simp, fun B u hu => ?_⟩
  rw [zmh_ hA]
  split
  · rename_i e
    subst e
    exact putL_mem.2 (.inr hu)
  · exact hu
theorem FsOk.seq (h : FsOk gm fs) {xs : List Int} (hx : ∀ x ∈ xs, x < gm.nons) {t : Int} (g : Fsq (Clo gm.rules false) (FL fs) xs t) : Fst gm.rules (.inr xs) t := by
  refine fst_seq.2 ?_
  induction xs with
  | nil => exact g
  | cons x xs ih =>
    have hxn := hx x (List.mem_cons_self ..)
    rcases g with g | ⟨h0, g | ⟨hn, g⟩⟩
    · exact .inl g
    · exact .inr ⟨h0, .inl (h.ok _ (by rw [h.len]; omega) _ g)⟩
    · exact .inr ⟨h0, .inr ⟨hn, ih (fun y hy => hx y (List.mem_cons_of_mem _ hy)) g⟩⟩
theorem FsOk.full (h : FsOk gm fs) (hg : zab_ gm = true) (hc : ∀ r ∈ gm.rules, Made gm.rules r.2 → ∀ t, Fsq (Clo gm.rules false) (FL fs) r.2 t → t ∈ rgt fs r.1.toNat) {A : Nat} (hA : A < fs.length) {t : Int} : t ∈ rgt fs A ↔ Fst gm.rules (.inl A) t := by
  refine ⟨h.ok A hA t, fun hf => ?_⟩
  exact zbp_ (F := FL fs) (fun r hr B hB hm t ht => by
    have := hc r hr hm t ht
    rwa [hB, Int.toNat_natCast] at this) hf
theorem tst_made (hg : zab_ gm = true) {xs : List Int} (hx : ∀ x ∈ xs, x < gm.nons) : xs.all (tstC true (cloV gm true)) = true ↔ Made gm.rules xs := by
  rw [List.all_eq_true]
  have key : ∀ x ∈ xs, (tstC true (cloV gm true) x = true ↔ (¬ x < 0 → Clo gm.rules true x.toNat)) := fun x hxm => by
    have hxn := hx x hxm
    unfold tstC cloV
    by_cases h0 : x < 0
    · simp [h0]
    · simp only [h0, decide_false, Bool.false_and, Bool.false_or, show 0 ≤ x from by omega, decide_true, Bool.true_and, decide_eq_true_eq, not_false_eq_true, forall_const]
      rw [setL_mem]
      constructor
      · rintro ⟨a, rfl, _, h⟩
        simpa using h
      · exact fun h => ⟨x.toNat, by omega, by omega, h⟩
  exact ⟨fun h x hxm => (key x hxm).1 (h x hxm), fun h x hxm => (key x hxm).2 (h x hxm)⟩
theorem begV_of {xs : List Int} {out : List Int} (hg : zab_ gm = true) (hx : ∀ x ∈ xs, -gm.toks ≤ x ∧ x < gm.nons) (hm : Made gm.rules xs) (hR : zjd_ out) (h : ∀ t, t ∈ out ↔ Fst gm.rules (.inr xs) t) : out = begV gm xs := by
  refine ztj_ hR ?_ fun t => ?_
  · unfold begV
    rw [if_pos hm]
    exact zbh_ _ _
  · rw [h t, begV_mem hm (fun x hxm => (hx x hxm).1) fun r hr x hxm => ((zmd_ hg r hr).2.2 x hxm).1]
theorem begV_no {xs : List Int} (hm : ¬ Made gm.rules xs) : begV gm xs = [] := by
  unfold begV
  rw [if_neg hm]
end
end Go.Sh

namespace Go.Proofs.Yteabbgaffgpegaa
open Go Go.Sh Go.RowKit
section
variable {w : World} {k : Value → World → Prop} {Y X Z : Option Addr} {cy cx cz : Nat} {gm : Gram} {xs : List Int}
attribute [local irreducible] Rd Do CallK zb_ zk_ Join zfb_ zeb_ zc_ zcb_ sBin sUn ze_ zu_ zib_ zd_ za_ zyb_
set_option maxHeartbeats 12800000 in
theorem l14Firsts_c (hG : kG Y cy gm.rules w) (hg : zab_ gm = true)
    (hk : ∀ w' b fs, Gr w w' → FsOk gm fs → (∀ A, A < fs.length → ∀ t, t ∈ rgt fs A ↔ Fst gm.rules (.inl A) t) → Intss w' (some ⟨b, 0, none⟩) fs → k (.slice (some ⟨b, 0, none⟩) fs.length fs.length) w') :
    CallK Try.prog 114 [grv gm Y cy] k w := by
  refine enter114 ?_
  unfold S114
  have hgr := zmd_ hg
  have hn := zjc_ hg
  have htk := zdd_ hg
  have H := (Kn.nil w).addG hG.1 hG.2
  refine zub_ fun b1 w1 g1 hb B1 => ?_
  have H := (H.step g1).addB B1
  simp only [List.cons_append, List.nil_append] at H
  rw [zw_ zmb_ sz26 rfl (H.get 2 rfl)]
  refine zch_ (gm := gm) (H.get 1 rfl) (by omega) (fun r hr => (hgr r hr).1) (fun r hr => by have := (hgr r hr).2.1; omega) fun w2 U d g hU => ?_
  have K := (H.step g).addI hU.1 hU.2
  simp only [List.cons_append, List.nil_append] at K
  clear H
  have H := Apt.nil w2
  simp only [zq18, zq19, zq20, zq21, zq22, zq23, zq24, zq25, zq26, zq27, zq28, zq4, zq3, zq1, zq2, zq0, zq29, zq30, zq14, zq15, zq16, zq17, zq13, zq10, zq12, zq11, zq7, zq5, zq6, zq9, zq8, zq31, zq32, ite_T, ite_F, zq33, zq34, zq35, Nat.reduceEqDiff, len22, len24, fa26_0, fa26_1, fa26_2, len27, len35, fa86_0, fa86_1, fa86_2, fa97_0, fa97_1, fa106_0, fa106_1, fa145_0, fa145_1, fa145_2, fa145_3, fa145_4, len192]
  rw [ldB3 (K.get 2 rfl) rfl]
  have en : gm.nons = ((gm.nons.toNat : Nat) : Int) := by omega
  rw [en]
  refine slotsNew H (by omega) fun bX w3 H => ?_
  simp only [List.nil_append] at H
  rw [← en]
  have hn0 : (List.replicate gm.nons.toNat ([] : List Int)).length = gm.nons.toNat := by simp
  have e0 : ∀ A, rgt (List.replicate gm.nons.toNat ([] : List Int)) A = [] := fun A => by
    unfold rgt
    rw [List.getD_eq_getElem?_getD, List.getElem?_replicate]
    split <;> rfl
  have hF0 : FsOk gm (List.replicate gm.nons.toNat []) := ⟨hn0, fun A _ => by rw [e0]; exact .nil, fun A _ t ht => by rw [e0] at ht; simp at ht⟩
  refine zfc_ (σ := List (List Int) × Bool) (fun s f w' => f 5 = .bool s.2 ∧ FsOk gm s.1 ∧ (s.2 = false → ∀ r ∈ gm.rules, Made gm.rules r.2 → ∀ t, Fsq (Clo gm.rules false) (FL s.1) r.2 t → t ∈ rgt s.1 r.1.toNat) ∧
      ∃ G, Apt w2 w' [slg G bX gm.nons.toNat s.1])
    (fun s => if s.2 = true then 26 - sumL s.1 else 0) (List.replicate gm.nons.toNat [], true) ⟨rfl, hF0, (fun h => by cases h), _, H⟩ ?_
  clear H hF0 e0 hn0
  rintro ⟨fs, more⟩ f w5 N hag ⟨f5, hF, hcl, G, H⟩ hN
  dsimp only at f5 hF hcl H hN
  have f1 : f 1 = ptrv b1 := hag 1 (by decide)
  have f3 : f 3 = .slice U (cloV gm true).length d := hag 3 (by decide)
  have f4 : f 4 = .slice (some ⟨bX, 0, none⟩) gm.nons.toNat gm.nons.toNat := hag 4 (by decide)
  simp only [f1, f3, f4, f5, zq18, zq19, zq20, zq21, zq22, zq23, zq24, zq25, zq26, zq27, zq28, zq4, zq3, zq1, zq2, zq0, zq29, zq30, zq14, zq15, zq16, zq17, zq13, zq10, zq12, zq11, zq7, zq5, zq6, zq9, zq8, zq31, zq32, ite_T, ite_F, zq33, zq34, zq35, Nat.reduceEqDiff, len22, len24, fa26_0, fa26_1, fa26_2, len27, len35, fa86_0, fa86_1, fa86_2, fa97_0, fa97_1, fa106_0, fa106_1, fa145_0, fa145_1, fa145_2, fa145_3, fa145_4, len192]
  have hsum : ∀ gs, FsOk gm gs → sumL gs ≤ 24 := fun gs h => by
    have := sumL_le (m := 4) fun A hA => h.four hg hA
    have := h.len
    omega
  cases more
  case false =>
    simp only [f4, zq18, zq19, zq20, zq21, zq22, zq23, zq24, zq25, zq26, zq27, zq28, zq4, zq3, zq1, zq2, zq0, zq29, zq30, zq14, zq15, zq16, zq17, zq13, zq10, zq12, zq11, zq7, zq5, zq6, zq9, zq8, zq31, zq32, ite_T, ite_F, zq33, zq34, zq35, Nat.reduceEqDiff, len22, len24, fa26_0, fa26_1, fa26_2, len27, len35, fa86_0, fa86_1, fa86_2, fa97_0, fa97_1, fa106_0, fa106_1, fa145_0, fa145_1, fa145_2, fa145_3, fa145_4, len192]
    have := hk w5 bX fs ((K.step H.gr).get 0 rfl) hF (fun A hA t => hF.full hg (hcl rfl) hA) (slotsIs H 0 rfl (by rw [hF.len]; omega))
    rwa [hF.len] at this
  simp only [f1, f3, f4, zq18, zq19, zq20, zq21, zq22, zq23, zq24, zq25, zq26, zq27, zq28, zq4, zq3, zq1, zq2, zq0, zq29, zq30, zq14, zq15, zq16, zq17, zq13, zq10, zq12, zq11, zq7, zq5, zq6, zq9, zq8, zq31, zq32, ite_T, ite_F, zq33, zq34, zq35, Nat.reduceEqDiff, len22, len24, fa26_0, fa26_1, fa26_2, len27, len35, fa86_0, fa86_1, fa86_2, fa97_0, fa97_1, fa106_0, fa106_1, fa145_0, fa145_1, fa145_2, fa145_3, fa145_4, len192]
  have K5 := K.step H.gr
  rw [zhe_ (K5.get 2 rfl) rfl]
  simp only [zq18, zq19, zq20, zq21, zq22, zq23, zq24, zq25, zq26, zq27, zq28, zq4, zq3, zq1, zq2, zq0, zq29, zq30, zq14, zq15, zq16, zq17, zq13, zq10, zq12, zq11, zq7, zq5, zq6, zq9, zq8, zq31, zq32, ite_T, ite_F, zq33, zq34, zq35, Nat.reduceEqDiff, len22, len24, fa26_0, fa26_1, fa26_2, len27, len35, fa86_0, fa86_1, fa86_2, fa97_0, fa97_1, fa106_0, fa106_1, fa145_0, fa145_1, fa145_2, fa145_3, fa145_4, len192]
  refine zhb_ gm.rules.length 0 (fun i q w' => i ≤ gm.rules.length ∧ q 22 = .int .i64 (i : Int) ∧ ∃ (fs2 : List (List Int)) (m2 : Bool), q 5 = .bool m2 ∧ FsOk gm fs2 ∧ leF fs fs2 ∧ (m2 = false → fs2 = fs) ∧ (m2 = true → sumL fs < sumL fs2) ∧
      (∀ z, z < i → Made gm.rules (rul gm.rules z).2 → ∀ t, Fsq (Clo gm.rules false) (FL fs) (rul gm.rules z).2 t → t ∈ rgt fs2 (rul gm.rules z).1.toNat) ∧
      ∃ G, Apt w2 w' [slg G bX gm.nons.toNat fs2])
    ⟨Nat.zero_le _, rfl, fs, false, rfl, hF, leF.refl fs, (fun _ => rfl), (fun h => by cases h), (fun z hz => by omega), G, H⟩ ?_
  clear H K5
  rintro i q w8 N2 hag2 ⟨hi, q22, fs2, m2, q5, hF2, hle, hno, hyes, hdone, G, H⟩ hN2
  have q1 : q 1 = ptrv b1 := (hag2 1 (by decide)).trans f1
  have q3 : q 3 = .slice U (cloV gm true).length d := (hag2 3 (by decide)).trans f3
  have q4 : q 4 = .slice (some ⟨bX, 0, none⟩) gm.nons.toNat gm.nons.toNat := (hag2 4 (by decide)).trans f4
  have q20 : q 20 = .slice Y gm.rules.length cy := hag2 20 (by decide)
  have q21 : q 21 = .int .i64 gm.rules.length := hag2 21 (by decide)
  have K8 := K.step H.gr
  have hRF := (K8.get 1 rfl).2
  have hrl := hRF.le
  simp only [q1, q3, q4, q5, q20, q21, q22, zq18, zq19, zq20, zq21, zq22, zq23, zq24, zq25, zq26, zq27, zq28, zq4, zq3, zq1, zq2, zq0, zq29, zq30, zq14, zq15, zq16, zq17, zq13, zq10, zq12, zq11, zq7, zq5, zq6, zq9, zq8, zq31, zq32, ite_T, ite_F, zq33, zq34, zq35, Nat.reduceEqDiff, len22, len24, fa26_0, fa26_1, fa26_2, len27, len35, fa86_0, fa86_1, fa86_2, fa97_0, fa97_1, fa106_0, fa106_1, fa145_0, fa145_1, fa145_2, fa145_3, fa145_4, len192]
  by_cases hlt : i < gm.rules.length
  case neg =>
    simp only [show ¬ ((i : Int) < (gm.rules.length : Int)) from by omega, decide_false, q5, zq18, zq19, zq20, zq21, zq22, zq23, zq24, zq25, zq26, zq27, zq28, zq4, zq3, zq1, zq2, zq0, zq29, zq30, zq14, zq15, zq16, zq17, zq13, zq10, zq12, zq11, zq7, zq5, zq6, zq9, zq8, zq31, zq32, ite_T, ite_F, zq33, zq34, zq35, Nat.reduceEqDiff, len22, len24, fa26_0, fa26_1, fa26_2, len27, len35, fa86_0, fa86_1, fa86_2, fa97_0, fa97_1, fa106_0, fa106_1, fa145_0, fa145_1, fa145_2, fa145_3, fa145_4, len192]
    refine hN (fs2, m2) _ _ ⟨q5, hF2, fun hm r hr hma t ht => ?_, G, H⟩ ?_
    · dsimp only at hm ht ⊢
      have e := hno hm
      subst e
      obtain ⟨z, hz, rfl⟩ := List.getElem_of_mem hr
      have := hdone z (by omega)
      rw [zic_ hz] at this
      exact this hma t ht
    · dsimp only
      have := hsum fs2 hF2
      cases m2
      · have e := hno rfl
        subst e
        simp
        omega
      · have := hyes rfl
        simp
        omega
  simp only [show ((i : Int) < (gm.rules.length : Int)) from by omega, decide_true, zq18, zq19, zq20, zq21, zq22, zq23, zq24, zq25, zq26, zq27, zq28, zq4, zq3, zq1, zq2, zq0, zq29, zq30, zq14, zq15, zq16, zq17, zq13, zq10, zq12, zq11, zq7, zq5, zq6, zq9, zq8, zq31, zq32, ite_T, ite_F, zq33, zq34, zq35, Nat.reduceEqDiff, len22, len24, fa26_0, fa26_1, fa26_2, len27, len35, fa86_0, fa86_1, fa86_2, fa97_0, fa97_1, fa106_0, fa106_1, fa145_0, fa145_1, fa145_2, fa145_3, fa145_4, len192]
  have hrm : rul gm.rules i ∈ gm.rules := by rw [zic_ hlt]; exact List.getElem_mem hlt
  have hr0 := hgr _ hrm
  refine rdi (ixn24 hRF.ptr hlt) ?_
  refine zwh_ zdc_ zkb_ (K.get 1 rfl).2 H.gr hlt fun Z cz hcz hZ => ?_
  refine zpb_ H zvb_ fun b7 w9 H => ?_
  refine zdb_ H 1 rfl zkb_ rfl rfl rfl fun w10 H => ?_
  have H : Apt w2 w10 [slg G bX gm.nons.toNat fs2, bx b7 [.int .i64 (rul gm.rules i).1, .slice Z (rul gm.rules i).2.length cz] 106] := H
  simp only [zq18, zq19, zq20, zq21, zq22, zq23, zq24, zq25, zq26, zq27, zq28, zq4, zq3, zq1, zq2, zq0, zq29, zq30, zq14, zq15, zq16, zq17, zq13, zq10, zq12, zq11, zq7, zq5, zq6, zq9, zq8, zq31, zq32, ite_T, ite_F, zq33, zq34, zq35, Nat.reduceEqDiff, len22, len24, fa26_0, fa26_1, fa26_2, len27, len35, fa86_0, fa86_1, fa86_2, fa97_0, fa97_1, fa106_0, fa106_1, fa145_0, fa145_1, fa145_2, fa145_3, fa145_4, len192]
  rw [zad_ (H.box 1 rfl) rfl]
  simp only [zq18, zq19, zq20, zq21, zq22, zq23, zq24, zq25, zq26, zq27, zq28, zq4, zq3, zq1, zq2, zq0, zq29, zq30, zq14, zq15, zq16, zq17, zq13, zq10, zq12, zq11, zq7, zq5, zq6, zq9, zq8, zq31, zq32, ite_T, ite_F, zq33, zq34, zq35, Nat.reduceEqDiff, len22, len24, fa26_0, fa26_1, fa26_2, len27, len35, fa86_0, fa86_1, fa86_2, fa97_0, fa97_1, fa106_0, fa106_1, fa145_0, fa145_1, fa145_2, fa145_3, fa145_4, len192]
  have hrr := hdone
  generalize hre : rul gm.rules i = r at *
  have hZk : ∀ w', Gr w2 w' → kI Z r.2 cz w' := fun w' g => ⟨hZ.gr g, hcz⟩
  have hxn : ∀ x ∈ r.2, x < gm.nons := fun x hx => (hr0.2.2 x hx).2
  -- all symbols derive something
  refine zhb_ r.2.length 0 (fun j p w' => j ≤ r.2.length ∧ p 29 = .int .i64 (j : Int) ∧ p 8 = .bool ((r.2.take j).all (tstC true (cloV gm true))) ∧ Apt w2 w' [slg G bX gm.nons.toNat fs2, bx b7 [.int .i64 r.1, .slice Z r.2.length cz] 106])
    ⟨Nat.zero_le _, rfl, rfl, H⟩ ?_
  clear H
  rintro j p w11 N3 hag3 ⟨hj, p29, p8, H⟩ hN3
  have p1 : p 1 = ptrv b1 := (hag3 1 (by decide)).trans q1
  have p3 : p 3 = .slice U (cloV gm true).length d := (hag3 3 (by decide)).trans q3
  have p4 : p 4 = .slice (some ⟨bX, 0, none⟩) gm.nons.toNat gm.nons.toNat := (hag3 4 (by decide)).trans q4
  have p5 : p 5 = .bool m2 := (hag3 5 (by decide)).trans q5
  have p7 : p 7 = ptrv b7 := hag3 7 (by decide)
  have p22 : p 22 = .int .i64 (i : Int) := (hag3 22 (by decide)).trans q22
  have p27 : p 27 = .slice Z r.2.length cz := hag3 27 (by decide)
  have p28 : p 28 = .int .i64 r.2.length := hag3 28 (by decide)
  have hZm := (hZk _ H.gr).1
  have K11 := K.step H.gr
  have hzl := hZm.le
  simp only [p1, p3, p4, p7, p8, p27, p28, p29, zq18, zq19, zq20, zq21, zq22, zq23, zq24, zq25, zq26, zq27, zq28, zq4, zq3, zq1, zq2, zq0, zq29, zq30, zq14, zq15, zq16, zq17, zq13, zq10, zq12, zq11, zq7, zq5, zq6, zq9, zq8, zq31, zq32, ite_T, ite_F, zq33, zq34, zq35, Nat.reduceEqDiff, len22, len24, fa26_0, fa26_1, fa26_2, len27, len35, fa86_0, fa86_1, fa86_2, fa97_0, fa97_1, fa106_0, fa106_1, fa145_0, fa145_1, fa145_2, fa145_3, fa145_4, len192]
  by_cases hjl : j < r.2.length
  case pos =>
    simp only [show ((j : Int) < (r.2.length : Int)) from by omega, decide_true, zq18, zq19, zq20, zq21, zq22, zq23, zq24, zq25, zq26, zq27, zq28, zq4, zq3, zq1, zq2, zq0, zq29, zq30, zq14, zq15, zq16, zq17, zq13, zq10, zq12, zq11, zq7, zq5, zq6, zq9, zq8, zq31, zq32, ite_T, ite_F, zq33, zq34, zq35, Nat.reduceEqDiff, len22, len24, fa26_0, fa26_1, fa26_2, len27, len35, fa86_0, fa86_1, fa86_2, fa97_0, fa97_1, fa106_0, fa106_1, fa145_0, fa145_1, fa145_2, fa145_3, fa145_4, len192]
    rw [zwb_ hZm.ptr hjl, ld3 (hZm.cell j hjl)]
    have estep := zcg_ (p := tstC true (cloV gm true)) hjl
    have hxm : r.2.getD j 0 ∈ r.2 := zec_ hjl
    cases hall : (r.2.take j).all (tstC true (cloV gm true))
    · repeat (first | refine rdi neq_self ?_ | refine rdi neqb_self ?_ | refine rdi eql_self ?_ | refine rdi eqlb_self ?_ | refine rdi zq1 ?_ | refine rdi zq2 ?_ | refine rdi zq13 ?_ | refine rdi zq14 ?_ | refine rdi zq16 ?_ | refine rdi zq15 ?_ | refine rdi zq17 ?_ | refine rdi zq4 ?_ | refine rdi zq3 ?_ | refine rdi zq27 ?_ | refine rdi bneq ?_ | refine rdi beql ?_ | refine rdi zq29 ?_ | refine rdi zq30 ?_ | refine rdi zq21 ?_ | refine rdi zq22 ?_ | refine rdi zq23 ?_ | refine rdi zq24 ?_ | refine rdi zq25 ?_ | refine rdi zq26 ?_ | refine rdi len27 ?_ | refine rdi len35 ?_)
      rw [zm_ (by omega) (by omega)]
      exact hN3 _ _ hjl ⟨by omega, rfl, by rw [estep, hall]; rfl, H⟩
    · repeat (first | refine rdi neq_self ?_ | refine rdi neqb_self ?_ | refine rdi eql_self ?_ | refine rdi eqlb_self ?_ | refine rdi zq1 ?_ | refine rdi zq2 ?_ | refine rdi zq13 ?_ | refine rdi zq14 ?_ | refine rdi zq16 ?_ | refine rdi zq15 ?_ | refine rdi zq17 ?_ | refine rdi zq4 ?_ | refine rdi zq3 ?_ | refine rdi zq27 ?_ | refine rdi bneq ?_ | refine rdi beql ?_ | refine rdi zq29 ?_ | refine rdi zq30 ?_ | refine rdi zq21 ?_ | refine rdi zq22 ?_ | refine rdi zq23 ?_ | refine rdi zq24 ?_ | refine rdi zq25 ?_ | refine rdi zq26 ?_ | refine rdi len27 ?_ | refine rdi len35 ?_)
      rw [hall, Bool.true_and] at estep
      by_cases hneg : r.2.getD j 0 < 0
      · rw [decide_eq_true hneg]
        repeat (first | refine rdi neq_self ?_ | refine rdi neqb_self ?_ | refine rdi eql_self ?_ | refine rdi eqlb_self ?_ | refine rdi zq1 ?_ | refine rdi zq2 ?_ | refine rdi zq13 ?_ | refine rdi zq14 ?_ | refine rdi zq16 ?_ | refine rdi zq15 ?_ | refine rdi zq17 ?_ | refine rdi zq4 ?_ | refine rdi zq3 ?_ | refine rdi zq27 ?_ | refine rdi bneq ?_ | refine rdi beql ?_ | refine rdi zq29 ?_ | refine rdi zq30 ?_ | refine rdi zq21 ?_ | refine rdi zq22 ?_ | refine rdi zq23 ?_ | refine rdi zq24 ?_ | refine rdi zq25 ?_ | refine rdi zq26 ?_ | refine rdi len27 ?_ | refine rdi len35 ?_)
        rw [zm_ (by omega) (by omega)]
        have e1 : (r.2.take (j + 1)).all (tstC true (cloV gm true)) = true := by rw [estep]; simp only [tstC, hneg, decide_true, Bool.and_self, Bool.true_or]
        exact hN3 _ _ hjl ⟨by omega, rfl, by rw [e1]; rfl, H⟩
      · rw [decide_eq_false hneg]
        repeat (first | refine rdi neq_self ?_ | refine rdi neqb_self ?_ | refine rdi eql_self ?_ | refine rdi eqlb_self ?_ | refine rdi zq1 ?_ | refine rdi zq2 ?_ | refine rdi zq13 ?_ | refine rdi zq14 ?_ | refine rdi zq16 ?_ | refine rdi zq15 ?_ | refine rdi zq17 ?_ | refine rdi zq4 ?_ | refine rdi zq3 ?_ | refine rdi zq27 ?_ | refine rdi bneq ?_ | refine rdi beql ?_ | refine rdi zq29 ?_ | refine rdi zq30 ?_ | refine rdi zq21 ?_ | refine rdi zq22 ?_ | refine rdi zq23 ?_ | refine rdi zq24 ?_ | refine rdi zq25 ?_ | refine rdi zq26 ?_ | refine rdi len27 ?_ | refine rdi len35 ?_)
        refine zjf_ (K11.get 3 rfl).1 fun w12 g => ?_
        have H := H.step g
        repeat (first | refine rdi neq_self ?_ | refine rdi neqb_self ?_ | refine rdi eql_self ?_ | refine rdi eqlb_self ?_ | refine rdi zq1 ?_ | refine rdi zq2 ?_ | refine rdi zq13 ?_ | refine rdi zq14 ?_ | refine rdi zq16 ?_ | refine rdi zq15 ?_ | refine rdi zq17 ?_ | refine rdi zq4 ?_ | refine rdi zq3 ?_ | refine rdi zq27 ?_ | refine rdi bneq ?_ | refine rdi beql ?_ | refine rdi zq29 ?_ | refine rdi zq30 ?_ | refine rdi zq21 ?_ | refine rdi zq22 ?_ | refine rdi zq23 ?_ | refine rdi zq24 ?_ | refine rdi zq25 ?_ | refine rdi zq26 ?_ | refine rdi len27 ?_ | refine rdi len35 ?_)
        rw [zm_ (by omega) (by omega)]
        have e1 : (r.2.take (j + 1)).all (tstC true (cloV gm true)) = decide (r.2.getD j 0 ∈ cloV gm true) := by rw [estep]; simp only [tstC, hneg, show 0 ≤ r.2.getD j 0 from by omega, decide_true, decide_false, Bool.false_and, Bool.false_or, Bool.true_and]
        exact hN3 _ _ hjl ⟨by omega, rfl, by rw [e1]; rfl, H⟩
  simp only [show ¬ ((j : Int) < (r.2.length : Int)) from by omega, decide_false, p1, p4, p7, p8, p22, zq18, zq19, zq20, zq21, zq22, zq23, zq24, zq25, zq26, zq27, zq28, zq4, zq3, zq1, zq2, zq0, zq29, zq30, zq14, zq15, zq16, zq17, zq13, zq10, zq12, zq11, zq7, zq5, zq6, zq9, zq8, zq31, zq32, ite_T, ite_F, zq33, zq34, zq35, Nat.reduceEqDiff, len22, len24, fa26_0, fa26_1, fa26_2, len27, len35, fa86_0, fa86_1, fa86_2, fa97_0, fa97_1, fa106_0, fa106_1, fa145_0, fa145_1, fa145_2, fa145_3, fa145_4, len192]
  rw [List.take_of_length_le (by omega)] at p8
  rw [zw_ zmb_ sz26 rfl (K11.get 2 rfl), zad_ (H.box 1 rfl) rfl]
  have hmade := tst_made hg hxn
  have hl2 := hF2.len
  refine zcm_ (n := gm.nons.toNat) (K11.get 1 rfl) hg (slotsIs H 0 rfl (by omega)) (by omega) hl2 (hF2.tok hg) (hZk _ H.gr) (fun x hx => hr0.2.2 x hx) fun w12 V e ts g hRt hts hV hVe => ?_
  have H := addRdI H g hV hVe
  simp only [List.cons_append, List.nil_append] at H
  simp only [zq18, zq19, zq20, zq21, zq22, zq23, zq24, zq25, zq26, zq27, zq28, zq4, zq3, zq1, zq2, zq0, zq29, zq30, zq14, zq15, zq16, zq17, zq13, zq10, zq12, zq11, zq7, zq5, zq6, zq9, zq8, zq31, zq32, ite_T, ite_F, zq33, zq34, zq35, Nat.reduceEqDiff, len22, len24, fa26_0, fa26_1, fa26_2, len27, len35, fa86_0, fa86_1, fa86_2, fa97_0, fa97_1, fa106_0, fa106_1, fa145_0, fa145_1, fa145_2, fa145_3, fa145_4, len192]
  generalize w11.heap.size = B11 at *
  generalize w12.heap.size = S12 at *
  generalize hall : r.2.all (tstC true (cloV gm true)) = all at *
  have hm0 : r.1.toNat < gm.nons.toNat := by omega
  refine zhb_ ts.length 0 (fun u y w' => u ≤ ts.length ∧ y 50 = .int .i64 (u : Int) ∧ ∃ (fs3 : List (List Int)) (m3 : Bool), y 5 = .bool m3 ∧ FsOk gm fs3 ∧ leF fs2 fs3 ∧ (m3 = false → fs3 = fs) ∧ (m3 = true → sumL fs < sumL fs3) ∧
      (all = true → ∀ t ∈ ts.take u, t ∈ rgt fs3 r.1.toNat) ∧
      ∃ G, Apt w2 w' [slg G bX gm.nons.toNat fs3, bx b7 [.int .i64 r.1, .slice Z r.2.length cz] 106, rdI B11 S12 V e ts])
    ⟨Nat.zero_le _, rfl, fs2, m2, p5, hF2, leF.refl fs2, hno, hyes, (fun _ t ht => by simp at ht), G, H⟩ ?_
  clear H K11
  rintro u y w13 N4 hag4 ⟨hu, y50, fs3, m3, y5, hF3, hle3, hno3, hyes3, hdone3, G, H⟩ hN4
  have y4 : y 4 = .slice (some ⟨bX, 0, none⟩) gm.nons.toNat gm.nons.toNat := (hag4 4 (by decide)).trans p4
  have y7 : y 7 = ptrv b7 := (hag4 7 (by decide)).trans p7
  have y8 : y 8 = .bool all := (hag4 8 (by decide)).trans p8
  have y22 : y 22 = .int .i64 (i : Int) := (hag4 22 (by decide)).trans p22
  have y48 : y 48 = .slice V ts.length e := hag4 48 (by decide)
  have y49 : y 49 = .int .i64 ts.length := hag4 49 (by decide)
  have hV' := (rdIAt H 2 rfl).1
  have hvl := hV'.le
  simp only [y4, y5, y7, y8, y48, y49, y50, zq18, zq19, zq20, zq21, zq22, zq23, zq24, zq25, zq26, zq27, zq28, zq4, zq3, zq1, zq2, zq0, zq29, zq30, zq14, zq15, zq16, zq17, zq13, zq10, zq12, zq11, zq7, zq5, zq6, zq9, zq8, zq31, zq32, ite_T, ite_F, zq33, zq34, zq35, Nat.reduceEqDiff, len22, len24, fa26_0, fa26_1, fa26_2, len27, len35, fa86_0, fa86_1, fa86_2, fa97_0, fa97_1, fa106_0, fa106_1, fa145_0, fa145_1, fa145_2, fa145_3, fa145_4, len192]
  by_cases hul : u < ts.length
  case neg =>
    simp only [show ¬ ((u : Int) < (ts.length : Int)) from by omega, decide_false, y22, zq18, zq19, zq20, zq21, zq22, zq23, zq24, zq25, zq26, zq27, zq28, zq4, zq3, zq1, zq2, zq0, zq29, zq30, zq14, zq15, zq16, zq17, zq13, zq10, zq12, zq11, zq7, zq5, zq6, zq9, zq8, zq31, zq32, ite_T, ite_F, zq33, zq34, zq35, Nat.reduceEqDiff, len22, len24, fa26_0, fa26_1, fa26_2, len27, len35, fa86_0, fa86_1, fa86_2, fa97_0, fa97_1, fa106_0, fa106_1, fa145_0, fa145_1, fa145_2, fa145_3, fa145_4, len192]
    rw [zm_ (by omega) (by omega)]
    have H := (H.erase 2).erase 1
    simp only [List.eraseIdx_cons_zero, List.eraseIdx_cons_succ] at H
    rw [List.take_of_length_le (by omega)] at hdone3
    refine hN2 _ _ hlt ⟨by omega, rfl, fs3, m3, y5, hF3, hle.trans hle3, hno3, hyes3, fun z hz hma t ht => ?_, G, H⟩
    rcases Nat.lt_succ_iff_lt_or_eq.1 hz with hz | rfl
    · exact hle3.2 _ _ (hdone z hz hma t ht)
    · rw [hre] at hma ht ⊢
      exact hdone3 (hmade.2 hma) t ((hts t).2 (fsq_mono (fun A t h => hle.2 A t h) ht))
  simp only [show ((u : Int) < (ts.length : Int)) from by omega, decide_true, zq18, zq19, zq20, zq21, zq22, zq23, zq24, zq25, zq26, zq27, zq28, zq4, zq3, zq1, zq2, zq0, zq29, zq30, zq14, zq15, zq16, zq17, zq13, zq10, zq12, zq11, zq7, zq5, zq6, zq9, zq8, zq31, zq32, ite_T, ite_F, zq33, zq34, zq35, Nat.reduceEqDiff, len22, len24, fa26_0, fa26_1, fa26_2, len27, len35, fa86_0, fa86_1, fa86_2, fa97_0, fa97_1, fa106_0, fa106_1, fa145_0, fa145_1, fa145_2, fa145_3, fa145_4, len192]
  have htm : ts.getD u 0 ∈ ts := zec_ hul
  have htake := zmc_ hul
  refine zed_ (fun f w' => f 50 = .int .i64 (u : Int) ∧ ∃ (fs3 : List (List Int)) (m3 : Bool), f 5 = .bool m3 ∧ FsOk gm fs3 ∧ leF fs2 fs3 ∧ (m3 = false → fs3 = fs) ∧ (m3 = true → sumL fs < sumL fs3) ∧
      (all = true → ∀ t ∈ ts.take (u + 1), t ∈ rgt fs3 r.1.toNat) ∧
      ∃ G, Apt w2 w' [slg G bX gm.nons.toNat fs3, bx b7 [.int .i64 r.1, .slice Z r.2.length cz] 106, rdI B11 S12 V e ts]) (fun K' hK => ?_) ?_
  case refine_2 =>
    clear H
    rintro f7 w7 ⟨e50, h⟩
    simp only [e50, zq18, zq19, zq20, zq21, zq22, zq23, zq24, zq25, zq26, zq27, zq28, zq4, zq3, zq1, zq2, zq0, zq29, zq30, zq14, zq15, zq16, zq17, zq13, zq10, zq12, zq11, zq7, zq5, zq6, zq9, zq8, zq31, zq32, ite_T, ite_F, zq33, zq34, zq35, Nat.reduceEqDiff, len22, len24, fa26_0, fa26_1, fa26_2, len27, len35, fa86_0, fa86_1, fa86_2, fa97_0, fa97_1, fa106_0, fa106_1, fa145_0, fa145_1, fa145_2, fa145_3, fa145_4, len192]
    rw [zm_ (by omega) (by omega)]
    exact hN4 _ _ hul ⟨by omega, rfl, h⟩
  rw [zwb_ hV'.ptr hul, ld3 (hV'.cell u hul)]
  generalize htt : ts.getD u 0 = t at *
  cases all
  case false =>
    repeat (first | refine rdi neq_self ?_ | refine rdi neqb_self ?_ | refine rdi eql_self ?_ | refine rdi eqlb_self ?_ | refine rdi zq1 ?_ | refine rdi zq2 ?_ | refine rdi zq13 ?_ | refine rdi zq14 ?_ | refine rdi zq16 ?_ | refine rdi zq15 ?_ | refine rdi zq17 ?_ | refine rdi zq4 ?_ | refine rdi zq3 ?_ | refine rdi zq27 ?_ | refine rdi bneq ?_ | refine rdi beql ?_ | refine rdi zq29 ?_ | refine rdi zq30 ?_ | refine rdi zq21 ?_ | refine rdi zq22 ?_ | refine rdi zq23 ?_ | refine rdi zq24 ?_ | refine rdi zq25 ?_ | refine rdi zq26 ?_ | refine rdi len27 ?_ | refine rdi len35 ?_)
    exact hK _ _ ⟨y50, fs3, m3, y5, hF3, hle3, hno3, hyes3, fun h => (by cases h), G, H⟩
  repeat (first | refine rdi neq_self ?_ | refine rdi neqb_self ?_ | refine rdi eql_self ?_ | refine rdi eqlb_self ?_ | refine rdi zq1 ?_ | refine rdi zq2 ?_ | refine rdi zq13 ?_ | refine rdi zq14 ?_ | refine rdi zq16 ?_ | refine rdi zq15 ?_ | refine rdi zq17 ?_ | refine rdi zq4 ?_ | refine rdi zq3 ?_ | refine rdi zq27 ?_ | refine rdi bneq ?_ | refine rdi beql ?_ | refine rdi zq29 ?_ | refine rdi zq30 ?_ | refine rdi zq21 ?_ | refine rdi zq22 ?_ | refine rdi zq23 ?_ | refine rdi zq24 ?_ | refine rdi zq25 ?_ | refine rdi zq26 ?_ | refine rdi len27 ?_ | refine rdi len35 ?_)
  refine rdi (ldB3 (H.box 1 rfl) rfl) ?_
  repeat (first | refine rdi neq_self ?_ | refine rdi neqb_self ?_ | refine rdi eql_self ?_ | refine rdi eqlb_self ?_ | refine rdi zq1 ?_ | refine rdi zq2 ?_ | refine rdi zq13 ?_ | refine rdi zq14 ?_ | refine rdi zq16 ?_ | refine rdi zq15 ?_ | refine rdi zq17 ?_ | refine rdi zq4 ?_ | refine rdi zq3 ?_ | refine rdi zq27 ?_ | refine rdi bneq ?_ | refine rdi beql ?_ | refine rdi zq29 ?_ | refine rdi zq30 ?_ | refine rdi zq21 ?_ | refine rdi zq22 ?_ | refine rdi zq23 ?_ | refine rdi zq24 ?_ | refine rdi zq25 ?_ | refine rdi zq26 ?_ | refine rdi len27 ?_ | refine rdi len35 ?_)
  have e1 : r.1 = ((r.1.toNat : Nat) : Int) := by omega
  have hl3 := hF3.len
  obtain ⟨W, cw, u1, u2, u3⟩ := (slotsIs H 0 rfl (by omega)).row r.1.toNat (by omega)
  have eix : ∀ (S : WS) (k : Value → Prop), k (.pointer (some ((ad (some ⟨bX, 0, none⟩)).add r.1.toNat))) → Rd Try.prog S (zd_ 35 (.slice (some ⟨bX, 0, none⟩) gm.nons.toNat gm.nons.toNat) (.int .i64 r.1)) k := fun S k h => by
    rw [e1]
    exact rdi (ixn35 (fun _ => rfl) hm0) h
  refine eix _ _ ?_
  repeat (first | refine rdi neq_self ?_ | refine rdi neqb_self ?_ | refine rdi eql_self ?_ | refine rdi eqlb_self ?_ | refine rdi zq1 ?_ | refine rdi zq2 ?_ | refine rdi zq13 ?_ | refine rdi zq14 ?_ | refine rdi zq16 ?_ | refine rdi zq15 ?_ | refine rdi zq17 ?_ | refine rdi zq4 ?_ | refine rdi zq3 ?_ | refine rdi zq27 ?_ | refine rdi bneq ?_ | refine rdi beql ?_ | refine rdi zq29 ?_ | refine rdi zq30 ?_ | refine rdi zq21 ?_ | refine rdi zq22 ?_ | refine rdi zq23 ?_ | refine rdi zq24 ?_ | refine rdi zq25 ?_ | refine rdi zq26 ?_ | refine rdi len27 ?_ | refine rdi len35 ?_)
  refine rdi (ld27 u1) ?_
  repeat (first | refine rdi neq_self ?_ | refine rdi neqb_self ?_ | refine rdi eql_self ?_ | refine rdi eqlb_self ?_ | refine rdi zq1 ?_ | refine rdi zq2 ?_ | refine rdi zq13 ?_ | refine rdi zq14 ?_ | refine rdi zq16 ?_ | refine rdi zq15 ?_ | refine rdi zq17 ?_ | refine rdi zq4 ?_ | refine rdi zq3 ?_ | refine rdi zq27 ?_ | refine rdi bneq ?_ | refine rdi beql ?_ | refine rdi zq29 ?_ | refine rdi zq30 ?_ | refine rdi zq21 ?_ | refine rdi zq22 ?_ | refine rdi zq23 ?_ | refine rdi zq24 ?_ | refine rdi zq25 ?_ | refine rdi zq26 ?_ | refine rdi len27 ?_ | refine rdi len35 ?_)
  refine zjf_ u3 fun w14 g => ?_
  have H := H.step g
  have hF3t : t ∈ rgt fs3 r.1.toNat ∨ t ∉ rgt fs3 r.1.toNat := Classical.em _
  rcases hF3t with hin | hin
  · rw [decide_eq_true hin]
    repeat (first | refine rdi neq_self ?_ | refine rdi neqb_self ?_ | refine rdi eql_self ?_ | refine rdi eqlb_self ?_ | refine rdi zq1 ?_ | refine rdi zq2 ?_ | refine rdi zq13 ?_ | refine rdi zq14 ?_ | refine rdi zq16 ?_ | refine rdi zq15 ?_ | refine rdi zq17 ?_ | refine rdi zq4 ?_ | refine rdi zq3 ?_ | refine rdi zq27 ?_ | refine rdi bneq ?_ | refine rdi beql ?_ | refine rdi zq29 ?_ | refine rdi zq30 ?_ | refine rdi zq21 ?_ | refine rdi zq22 ?_ | refine rdi zq23 ?_ | refine rdi zq24 ?_ | refine rdi zq25 ?_ | refine rdi zq26 ?_ | refine rdi len27 ?_ | refine rdi len35 ?_)
    refine hK _ _ ⟨y50, fs3, m3, y5, hF3, hle3, hno3, hyes3, fun _ v hv => ?_, G, H⟩
    rw [htake] at hv
    rcases List.mem_append.1 hv with hv | hv
    · exact hdone3 rfl v hv
    · rw [List.mem_singleton.1 hv]
      exact hin
  · rw [decide_eq_false hin]
    repeat (first | refine rdi neq_self ?_ | refine rdi neqb_self ?_ | refine rdi eql_self ?_ | refine rdi eqlb_self ?_ | refine rdi zq1 ?_ | refine rdi zq2 ?_ | refine rdi zq13 ?_ | refine rdi zq14 ?_ | refine rdi zq16 ?_ | refine rdi zq15 ?_ | refine rdi zq17 ?_ | refine rdi zq4 ?_ | refine rdi zq3 ?_ | refine rdi zq27 ?_ | refine rdi bneq ?_ | refine rdi beql ?_ | refine rdi zq29 ?_ | refine rdi zq30 ?_ | refine rdi zq21 ?_ | refine rdi zq22 ?_ | refine rdi zq23 ?_ | refine rdi zq24 ?_ | refine rdi zq25 ?_ | refine rdi zq26 ?_ | refine rdi len27 ?_ | refine rdi len35 ?_)
    have H := H.drew
    have B7 := H.box 1 rfl
    obtain ⟨cells, hrow, hslots⟩ := slotsAt H 0 rfl
    refine ⟨fun w' => Gr w14.drew w', Gr.refl _, ?_⟩
    refine rdi (ldS3 fun w' h => ((B7.gr h).cell _).trans rfl) ?_
    refine rdi (ldS3 fun w' h => ((B7.gr h).cell _).trans rfl) ?_
    refine eix _ _ ?_
    have hcl : r.1.toNat < cells.length := by rw [hslots.len]; omega
    obtain ⟨W2, c2, v1, v2, v3⟩ := hslots.cell r.1.toNat _ (List.getElem?_eq_getElem hcl)
    refine rdi (ldS27 fun w' h => h.cell ((Row.src hrow).cell _ _ (List.getElem?_eq_getElem hcl))) ?_
    rw [v1]
    have h4 := hF3.four hg (A := r.1.toNat) (by omega)
    refine zxj_ (F := fun q => (G q ∧ q ≠ bX) ∨ w14.drew.heap.size ≤ q) (fun q hq => .inr hq) (v3.mono fun q hq => .inl hq) v2 (by omega) fun w15 X5 c5 g5 hX5 hc5 => ?_
    refine ⟨g5, ?_⟩
    refine eix _ _ ?_
    refine slotPut H 0 rfl g5 (by omega) hm0 hX5 hc5 fun w16 G' H => ?_
    simp only [List.set_cons_zero] at H
    have hft : Fst gm.rules (.inl r.1.toNat) t := .rule hrm (by omega) (hmade.1 rfl) (hF2.seq hxn ((hts t).1 htm))
    have hput := hF3.put (A := r.1.toNat) (by omega) hft
    have hsm : sumL (fs3.set r.1.toNat (putL t (rgt fs3 r.1.toNat))) = sumL fs3 + 1 := sumL_put (by omega) (zwm_ (hF3.rise _ (by omega)) hin)
    have hfin : m3 = false → sumL fs = sumL fs3 := fun h => by rw [hno3 h]
    refine hK _ _ ⟨y50, _, true, rfl, hput, hle3.trans (leF_put (by omega)), (fun h => by cases h), (fun _ => by
      rw [hsm]
      cases m3
      · have := hfin rfl
        omega
      · have := hyes3 rfl
        omega), fun _ v hv => ?_, G', H⟩
    · rw [zmh_ (by omega), if_pos rfl, putL_mem]
      rw [htake] at hv
      rcases List.mem_append.1 hv with hv | hv
      · exact .inr (hdone3 rfl v hv)
      · exact .inl (List.mem_singleton.1 hv)
theorem l14Begins_c (hG : kG Y cy gm.rules w) (hg : zab_ gm = true) (hX : kI X xs cx w) (hx : ∀ x ∈ xs, -gm.toks ≤ x ∧ x < gm.nons)
    (hk : ∀ w' U d, Gr w w' → kI U (begV gm xs) d w' → k (.slice U (begV gm xs).length d) w') :
    CallK Try.prog 51 [grv gm Y cy, .slice X xs.length cx] k w := by
  refine enter51 ?_
  unfold S51
  have hgr := zmd_ hg
  have hn := zjc_ hg
  have H := ((Kn.nil w).addG hG.1 hG.2).addI hX.1 hX.2
  refine zub_ fun b1 w1 g1 hb B1 => ?_
  have H := (H.step g1).addB B1
  simp only [List.cons_append, List.nil_append] at H
  rw [zw_ zmb_ sz26 rfl (H.get 3 rfl)]
  refine zch_ (gm := gm) (H.get 1 rfl) (by omega) (fun r hr => (hgr r hr).1) (fun r hr => by have := (hgr r hr).2.1; omega) fun w2 U d g hU => ?_
  have H := (H.step g).addI hU.1 hU.2
  simp only [List.cons_append, List.nil_append] at H
  simp only [zq18, zq19, zq20, zq21, zq22, zq23, zq24, zq25, zq26, zq27, zq28, zq4, zq3, zq1, zq2, zq0, zq29, zq30, zq14, zq15, zq16, zq17, zq13, zq10, zq12, zq11, zq7, zq5, zq6, zq9, zq8, zq31, zq32, ite_T, ite_F, zq33, zq34, zq35, Nat.reduceEqDiff, len22, len24, fa26_0, fa26_1, fa26_2, len27, len35, fa86_0, fa86_1, fa86_2, fa97_0, fa97_1, fa106_0, fa106_1, fa145_0, fa145_1, fa145_2, fa145_3, fa145_4, len192]
  have hmade := tst_made hg (xs := xs) fun x hx' => (hx x hx').2
  refine zhb_ xs.length 0 (fun i f w' => i ≤ xs.length ∧ f 12 = .int .i64 (i : Int) ∧ Gr w2 w' ∧ (xs.take i).all (tstC true (cloV gm true)) = true) ⟨Nat.zero_le _, rfl, Gr.refl _, rfl⟩ ?_
  rintro i f w3 N hag ⟨hi, f12, hg3, hpre⟩ hN
  have H := H.step hg3
  have f1 : f 1 = .slice X xs.length cx := hag 1 (by decide)
  have f2 : f 2 = ptrv b1 := hag 2 (by decide)
  have f5 : f 5 = .slice U (cloV gm true).length d := hag 5 (by decide)
  have f10 : f 10 = .slice X xs.length cx := hag 10 (by decide)
  have f11 : f 11 = .int .i64 xs.length := hag 11 (by decide)
  have hXi := (H.get 2 rfl).1
  have hle := hXi.le
  simp only [f1, f2, f5, f10, f11, f12, zq18, zq19, zq20, zq21, zq22, zq23, zq24, zq25, zq26, zq27, zq28, zq4, zq3, zq1, zq2, zq0, zq29, zq30, zq14, zq15, zq16, zq17, zq13, zq10, zq12, zq11, zq7, zq5, zq6, zq9, zq8, zq31, zq32, ite_T, ite_F, zq33, zq34, zq35, Nat.reduceEqDiff, len22, len24, fa26_0, fa26_1, fa26_2, len27, len35, fa86_0, fa86_1, fa86_2, fa97_0, fa97_1, fa106_0, fa106_1, fa145_0, fa145_1, fa145_2, fa145_3, fa145_4, len192]
  by_cases hlt : i < xs.length
  case neg =>
    simp only [show ¬ ((i : Int) < (xs.length : Int)) from by omega, decide_false, f1, f2, zq18, zq19, zq20, zq21, zq22, zq23, zq24, zq25, zq26, zq27, zq28, zq4, zq3, zq1, zq2, zq0, zq29, zq30, zq14, zq15, zq16, zq17, zq13, zq10, zq12, zq11, zq7, zq5, zq6, zq9, zq8, zq31, zq32, ite_T, ite_F, zq33, zq34, zq35, Nat.reduceEqDiff, len22, len24, fa26_0, fa26_1, fa26_2, len27, len35, fa86_0, fa86_1, fa86_2, fa97_0, fa97_1, fa106_0, fa106_1, fa145_0, fa145_1, fa145_2, fa145_3, fa145_4, len192]
    rw [List.take_of_length_le (by omega)] at hpre
    have hm := hmade.1 hpre
    have H := H.drew
    have B2 := H.get 3 rfl
    refine ⟨fun w' => Gr w3.drew w', Gr.refl _, ?_⟩
    refine rdi (rdS26 rfl fun w' h => B2.gr h) (rdi (rdS26 rfl fun w' h => B2.gr h) ?_)
    refine l14Firsts_c (H.get 1 rfl) hg fun w4 bX fs g hF hfull hI => ?_
    have H := H.step g
    refine ⟨g, ?_⟩
    refine zcm_ (H.get 1 rfl) hg hI rfl hF.len (hF.tok hg) (H.get 2 rfl) hx fun w5 V e out g hR hout hV hVe => ?_
    have H := H.step g
    have eo : out = begV gm xs := begV_of hg hx hm hR fun t => by
      rw [hout t, fst_seq]
      refine ⟨fun h => ?_, fun h => ?_⟩
      · exact fst_seq.1 (hF.seq (fun x hx' => (hx x hx').2) h)
      · have key : ∀ ys : List Int, (∀ y ∈ ys, y < gm.nons) → Fsq (Clo gm.rules false) (fun A t => Fst gm.rules (.inl A) t) ys t → Fsq (Clo gm.rules false) (FL fs) ys t := by
          intro ys
          induction ys with
          | nil => exact fun _ h => h
          | cons y ys ih =>
            intro hy h
            have hyn := hy y (List.mem_cons_self ..)
            have hfl := hF.len
            rcases h with h | ⟨h0, h | ⟨hc, h⟩⟩
            · exact .inl h
            · exact .inr ⟨h0, .inl ((hfull _ (by omega) _).2 h)⟩
            · exact .inr ⟨h0, .inr ⟨hc, ih (fun z hz => hy z (List.mem_cons_of_mem _ hz)) h⟩⟩
        exact key xs (fun x hx' => (hx x hx').2) h
    rw [eo] at hV hVe ⊢
    exact hk w5 V e (H.get 0 rfl) ⟨hV.is, hVe⟩
  simp only [show ((i : Int) < (xs.length : Int)) from by omega, decide_true, zq18, zq19, zq20, zq21, zq22, zq23, zq24, zq25, zq26, zq27, zq28, zq4, zq3, zq1, zq2, zq0, zq29, zq30, zq14, zq15, zq16, zq17, zq13, zq10, zq12, zq11, zq7, zq5, zq6, zq9, zq8, zq31, zq32, ite_T, ite_F, zq33, zq34, zq35, Nat.reduceEqDiff, len22, len24, fa26_0, fa26_1, fa26_2, len27, len35, fa86_0, fa86_1, fa86_2, fa97_0, fa97_1, fa106_0, fa106_1, fa145_0, fa145_1, fa145_2, fa145_3, fa145_4, len192]
  rw [zwb_ hXi.ptr hlt, ld3 (hXi.cell i hlt)]
  have estep := zcg_ (p := tstC true (cloV gm true)) hlt
  rw [hpre, Bool.true_and] at estep
  have no : tstC true (cloV gm true) (xs.getD i 0) = false → ¬ Made gm.rules xs := fun h hm => by
    have := List.all_eq_true.1 (hmade.2 hm) _ (zec_ hlt)
    rw [h] at this
    cases this
  refine rdi zq26 ?_
  by_cases h0 : 0 ≤ xs.getD i 0
  · rw [decide_eq_true h0]
    repeat (first | refine rdi neq_self ?_ | refine rdi neqb_self ?_ | refine rdi eql_self ?_ | refine rdi eqlb_self ?_ | refine rdi zq1 ?_ | refine rdi zq2 ?_ | refine rdi zq13 ?_ | refine rdi zq14 ?_ | refine rdi zq16 ?_ | refine rdi zq15 ?_ | refine rdi zq17 ?_ | refine rdi zq4 ?_ | refine rdi zq3 ?_ | refine rdi zq27 ?_ | refine rdi bneq ?_ | refine rdi beql ?_ | refine rdi zq29 ?_ | refine rdi zq30 ?_ | refine rdi zq21 ?_ | refine rdi zq22 ?_ | refine rdi zq23 ?_ | refine rdi zq24 ?_ | refine rdi zq25 ?_ | refine rdi zq26 ?_ | refine rdi len27 ?_ | refine rdi len35 ?_)
    refine zjf_ (H.get 4 rfl).1 fun w4 g => ?_
    have H := H.step g
    by_cases hin : xs.getD i 0 ∈ cloV gm true
    · rw [decide_eq_true hin]
      repeat (first | refine rdi neq_self ?_ | refine rdi neqb_self ?_ | refine rdi eql_self ?_ | refine rdi eqlb_self ?_ | refine rdi zq1 ?_ | refine rdi zq2 ?_ | refine rdi zq13 ?_ | refine rdi zq14 ?_ | refine rdi zq16 ?_ | refine rdi zq15 ?_ | refine rdi zq17 ?_ | refine rdi zq4 ?_ | refine rdi zq3 ?_ | refine rdi zq27 ?_ | refine rdi bneq ?_ | refine rdi beql ?_ | refine rdi zq29 ?_ | refine rdi zq30 ?_ | refine rdi zq21 ?_ | refine rdi zq22 ?_ | refine rdi zq23 ?_ | refine rdi zq24 ?_ | refine rdi zq25 ?_ | refine rdi zq26 ?_ | refine rdi len27 ?_ | refine rdi len35 ?_)
      rw [zm_ (by omega) (by omega)]
      exact hN _ _ hlt ⟨by omega, rfl, zf_ hg3 g, by rw [estep]; unfold tstC; rw [decide_eq_true h0, decide_eq_true hin, Bool.and_self, Bool.or_true]⟩
    · rw [decide_eq_false hin]
      repeat (first | refine rdi neq_self ?_ | refine rdi neqb_self ?_ | refine rdi eql_self ?_ | refine rdi eqlb_self ?_ | refine rdi zq1 ?_ | refine rdi zq2 ?_ | refine rdi zq13 ?_ | refine rdi zq14 ?_ | refine rdi zq16 ?_ | refine rdi zq15 ?_ | refine rdi zq17 ?_ | refine rdi zq4 ?_ | refine rdi zq3 ?_ | refine rdi zq27 ?_ | refine rdi bneq ?_ | refine rdi beql ?_ | refine rdi zq29 ?_ | refine rdi zq30 ?_ | refine rdi zq21 ?_ | refine rdi zq22 ?_ | refine rdi zq23 ?_ | refine rdi zq24 ?_ | refine rdi zq25 ?_ | refine rdi zq26 ?_ | refine rdi len27 ?_ | refine rdi len35 ?_)
      have := hk _ none 0 (H.get 0 rfl)
      rw [begV_no (no (by unfold tstC; rw [decide_eq_false hin, decide_eq_false (by omega), Bool.false_and, Bool.and_false, Bool.or_self]))] at this
      exact this ⟨zwi_ _, Nat.le_refl _⟩
  · rw [decide_eq_false h0]
    repeat (first | refine rdi neq_self ?_ | refine rdi neqb_self ?_ | refine rdi eql_self ?_ | refine rdi eqlb_self ?_ | refine rdi zq1 ?_ | refine rdi zq2 ?_ | refine rdi zq13 ?_ | refine rdi zq14 ?_ | refine rdi zq16 ?_ | refine rdi zq15 ?_ | refine rdi zq17 ?_ | refine rdi zq4 ?_ | refine rdi zq3 ?_ | refine rdi zq27 ?_ | refine rdi bneq ?_ | refine rdi beql ?_ | refine rdi zq29 ?_ | refine rdi zq30 ?_ | refine rdi zq21 ?_ | refine rdi zq22 ?_ | refine rdi zq23 ?_ | refine rdi zq24 ?_ | refine rdi zq25 ?_ | refine rdi zq26 ?_ | refine rdi len27 ?_ | refine rdi len35 ?_)
    rw [zm_ (by omega) (by omega)]
    exact hN _ _ hlt ⟨by omega, rfl, hg3, by rw [estep]; unfold tstC; rw [decide_eq_true (show xs.getD i 0 < 0 by omega), Bool.and_self, Bool.true_or]⟩
theorem zci_ (hG : kG Y cy gm.rules w) (hX : kI X xs cx w) (hk : ∀ w' U d, Gr w w' → kI U (firV gm xs).1 d w' → k (.tuple #[.slice U (firV gm xs).1.length d, .bool (firV gm xs).2.1, .bool (firV gm xs).2.2]) w') :
    CallK Try.prog 10 [grv gm Y cy, .slice X xs.length cx] k w := by
  refine enter10 ?_
  unfold S10
  have H := ((Kn.nil w).addG hG.1 hG.2).addI hX.1 hX.2
  refine zub_ fun b1 w1 g1 hb B1 => ?_
  have H := (H.step g1).addB B1
  simp only [List.cons_append, List.nil_append] at H
  rw [zw_ zmb_ sz26 rfl (H.get 3 rfl)]
  refine zai_ (gvK (H.get 1 rfl)) fun w2 g => ?_
  have H := H.step g
  unfold firV at hk
  have no : ∀ w', Gr w w' → (zab_ gm && ztd_ gm xs 4) = false → k (.tuple #[.slice none 0 0, .bool false, .bool false]) w' := fun w' g h => by
    have := hk w' none 0 g
    rw [h, if_neg Bool.false_ne_true] at this
    exact this ⟨zwi_ w', Nat.le_refl _⟩
  cases hg : zab_ gm
  · repeat (first | refine rdi neq_self ?_ | refine rdi neqb_self ?_ | refine rdi eql_self ?_ | refine rdi eqlb_self ?_ | refine rdi zq1 ?_ | refine rdi zq2 ?_ | refine rdi zq13 ?_ | refine rdi zq14 ?_ | refine rdi zq16 ?_ | refine rdi zq15 ?_ | refine rdi zq17 ?_ | refine rdi zq4 ?_ | refine rdi zq3 ?_ | refine rdi zq27 ?_ | refine rdi bneq ?_ | refine rdi beql ?_ | refine rdi zq29 ?_ | refine rdi zq30 ?_ | refine rdi zq21 ?_ | refine rdi zq22 ?_ | refine rdi zq23 ?_ | refine rdi zq24 ?_ | refine rdi zq25 ?_ | refine rdi zq26 ?_ | refine rdi len27 ?_ | refine rdi len35 ?_)
    exact no _ (H.get 0 rfl) (by rw [hg]; rfl)
  have hn := zjc_ hg
  have ht := zdd_ hg
  repeat (first | refine rdi neq_self ?_ | refine rdi neqb_self ?_ | refine rdi eql_self ?_ | refine rdi eqlb_self ?_ | refine rdi zq1 ?_ | refine rdi zq2 ?_ | refine rdi zq13 ?_ | refine rdi zq14 ?_ | refine rdi zq16 ?_ | refine rdi zq15 ?_ | refine rdi zq17 ?_ | refine rdi zq4 ?_ | refine rdi zq3 ?_ | refine rdi zq27 ?_ | refine rdi bneq ?_ | refine rdi beql ?_ | refine rdi zq29 ?_ | refine rdi zq30 ?_ | refine rdi zq21 ?_ | refine rdi zq22 ?_ | refine rdi zq23 ?_ | refine rdi zq24 ?_ | refine rdi zq25 ?_ | refine rdi zq26 ?_ | refine rdi len27 ?_ | refine rdi len35 ?_)
  refine rdi (zw_ zmb_ sz26 rfl (H.get 3 rfl)) ?_
  repeat (first | refine rdi neq_self ?_ | refine rdi neqb_self ?_ | refine rdi eql_self ?_ | refine rdi eqlb_self ?_ | refine rdi zq1 ?_ | refine rdi zq2 ?_ | refine rdi zq13 ?_ | refine rdi zq14 ?_ | refine rdi zq16 ?_ | refine rdi zq15 ?_ | refine rdi zq17 ?_ | refine rdi zq4 ?_ | refine rdi zq3 ?_ | refine rdi zq27 ?_ | refine rdi bneq ?_ | refine rdi beql ?_ | refine rdi zq29 ?_ | refine rdi zq30 ?_ | refine rdi zq21 ?_ | refine rdi zq22 ?_ | refine rdi zq23 ?_ | refine rdi zq24 ?_ | refine rdi zq25 ?_ | refine rdi zq26 ?_ | refine rdi len27 ?_ | refine rdi len35 ?_)
  refine l4Form_c (gm := gm) (H.get 2 rfl).1 (by omega) (by omega) fun w3 g => ?_
  have H := H.step g
  cases hf : ztd_ gm xs 4
  · repeat (first | refine rdi neq_self ?_ | refine rdi neqb_self ?_ | refine rdi eql_self ?_ | refine rdi eqlb_self ?_ | refine rdi zq1 ?_ | refine rdi zq2 ?_ | refine rdi zq13 ?_ | refine rdi zq14 ?_ | refine rdi zq16 ?_ | refine rdi zq15 ?_ | refine rdi zq17 ?_ | refine rdi zq4 ?_ | refine rdi zq3 ?_ | refine rdi zq27 ?_ | refine rdi bneq ?_ | refine rdi beql ?_ | refine rdi zq29 ?_ | refine rdi zq30 ?_ | refine rdi zq21 ?_ | refine rdi zq22 ?_ | refine rdi zq23 ?_ | refine rdi zq24 ?_ | refine rdi zq25 ?_ | refine rdi zq26 ?_ | refine rdi len27 ?_ | refine rdi len35 ?_)
    exact no _ (H.get 0 rfl) (by rw [hg, hf]; rfl)
  repeat (first | refine rdi neq_self ?_ | refine rdi neqb_self ?_ | refine rdi eql_self ?_ | refine rdi eqlb_self ?_ | refine rdi zq1 ?_ | refine rdi zq2 ?_ | refine rdi zq13 ?_ | refine rdi zq14 ?_ | refine rdi zq16 ?_ | refine rdi zq15 ?_ | refine rdi zq17 ?_ | refine rdi zq4 ?_ | refine rdi zq3 ?_ | refine rdi zq27 ?_ | refine rdi bneq ?_ | refine rdi beql ?_ | refine rdi zq29 ?_ | refine rdi zq30 ?_ | refine rdi zq21 ?_ | refine rdi zq22 ?_ | refine rdi zq23 ?_ | refine rdi zq24 ?_ | refine rdi zq25 ?_ | refine rdi zq26 ?_ | refine rdi len27 ?_ | refine rdi len35 ?_)
  rw [hg, hf, Bool.and_self, if_pos rfl] at hk
  have hF := zyg_ hf
  have hx : ∀ x ∈ xs, -gm.toks ≤ x ∧ x < gm.nons := fun x hx => by have := hF.2 x hx; omega
  have H := H.drew
  have B2 := H.get 3 rfl
  refine ⟨fun w' => Gr w3.drew w', Gr.refl _, ?_⟩
  refine rdi (rdS26 rfl fun w' h => B2.gr h) (rdi (rdS26 rfl fun w' h => B2.gr h) ?_)
  refine l14Begins_c (H.get 1 rfl) hg (H.get 2 rfl) hx fun w4 U d g hU => ?_
  have H := (H.step g).addI hU.1 hU.2
  simp only [List.cons_append, List.nil_append] at H
  refine ⟨g, ?_⟩
  refine l14Null_c (H.get 1 rfl) hg (H.get 2 rfl) (fun x h => (hx x h).2) fun w5 g => ?_
  have H := H.step g
  exact hk w5 U d (H.get 0 rfl) (H.get 4 rfl)
theorem zdi_ {C : Option Addr} {bs : List Int} {cap : Nat} (hC : Byts w C bs) (hk : ∀ w' gm Y cy Z cz xs, Gr w w' → kG Y cy gm.rules w' → kI Z xs cz w' → k (.tuple #[grv gm Y cy, .slice Z (List.length xs) cz]) w') :
    CallK Try.prog 8 [.slice C bs.length cap] k w := by
  refine enter8 ?_
  unfold S8
  have H := Apt.nil w
  refine zpb_ H inf26 fun b1 w1 H => ?_
  refine drawSeq_c (hC.gr H.gr) fun w2 gm ft Y cy Z cz xs X cx ws hd A => ?_
  have H := H.append A
  simp only [List.cons_append, List.nil_append] at H
  refine rdi extract_three_0 (rdi extract_three_1 (rdi extract_three_2 ?_))
  refine zpb_ H inf26 fun b8 w3 H => ?_
  refine zdb_ H 4 rfl sz26 rfl rfl rfl fun w4 H => ?_
  simp only [List.cons_append, List.nil_append, List.set_cons_zero, List.set_cons_succ] at H
  rw [zw_ zmb_ sz26 rfl (H.box 4 rfl)]
  refine zdb_ H 0 rfl sz26 rfl rfl rfl fun w5 H => ?_
  simp only [List.cons_append, List.nil_append, List.set_cons_zero, List.set_cons_succ] at H
  rw [ztc_, zw_ zmb_ sz26 rfl (H.box 0 rfl)]
  exact hk w5 gm Y cy Z cz xs H.gr (gowK (H.gow 3 rfl)) ⟨H.ints 2 rfl, (H.row 2 rfl).cap.1⟩
end
section
variable {S : WS} {k : Value → Prop} {c b : Bool} {x : Int} {kd : IntKind} {t : TypeId}
theorem neq_self : Rd Try.prog S (sBin .neq t c (.int kd x) (.int kd x)) k = k (.bool false) := by rw [zq22, decide_eq_true rfl]; rfl
theorem eql_self : Rd Try.prog S (sBin .eql t c (.int kd x) (.int kd x)) k = k (.bool true) := by rw [zq21, decide_eq_true rfl]
theorem neqb_self : Rd Try.prog S (sBin .neq 4 c (.bool b) (.bool b)) k = k (.bool false) := by rw [bneq]; cases b <;> rfl
theorem eqlb_self : Rd Try.prog S (sBin .eql 4 c (.bool b) (.bool b)) k = k (.bool true) := by rw [beql]; cases b <;> rfl
end
end Go.Proofs.Yteabbgaffgpegaa

namespace Go.Sh
open Go
theorem fir_word {gm : Gram} {xs ws : List Int} {t : Int} {v : List Int} (h : (firV gm xs).2.2 = true) (hw : zyd_ gm.toks ws = true) (e : ws = t :: v) : (seqV gm xs ws).2 = true ∧ ((seqV gm xs ws).1 = true → t ∈ (firV gm xs).1) := by
  have hgf : (zab_ gm && ztd_ gm xs 4) = true := by
    unfold firV at h
    split at h
    · assumption
    · cases h
  unfold firV
  rw [if_pos hgf]
  rw [Bool.and_eq_true] at hgf
  obtain ⟨h1, h2⟩ := seqV_yi hgf.1 hw hgf.2
  refine ⟨h1, fun hs => ?_⟩
  have hy := h2.1 hs
  have hF := zyg_ hgf.2
  have hm : Made gm.rules xs := (yi_clo (tok := true) hy (.inl rfl)).2
  exact (begV_mem hm (fun x hx => (hF.2 x hx).1) fun r hr x hx => ((zmd_ hgf.1 r hr).2.2 x hx).1).2 (yi_fst hy e)
theorem fir_nil {gm : Gram} {xs : List Int} (h : (firV gm xs).2.2 = true) : seqV gm xs [] = ((firV gm xs).2.1, true) := by
  have hgf : (zab_ gm && ztd_ gm xs 4) = true := by
    unfold firV at h
    split at h
    · assumption
    · cases h
  unfold firV
  rw [if_pos hgf]
  rw [Bool.and_eq_true] at hgf
  have hw : zyd_ gm.toks [] = true := by simp [zyd_, allB]
  obtain ⟨h1, h2⟩ := seqV_yi hgf.1 hw hgf.2
  refine Prod.ext ?_ h1
  rw [Bool.eq_iff_iff, h2, yi_nulls]
  exact nulV_iff.symm
end Go.Sh
namespace Go.Proofs.Yteabbgaffgpegaa
open Go Go.Sh Go.RowKit
attribute [local irreducible] Rd Do CallK zb_ zk_ Join zfb_ zeb_ zc_ zcb_ sBin sUn ze_ zu_ zib_ zd_ za_ zyb_
set_option maxHeartbeats 12800000 in
theorem law_Firsts {w : World} {C D : Option Addr} {cap cap' : Nat} {bs es : List Int} (hC : Byts w C bs) (hD : Byts w D es) {k : Value → World → Prop} (hk : ∀ w', Gr w w' → k (.bool true) w') :
    CallK Try.prog 3 [.slice C bs.length cap, .slice D es.length cap'] k w := by
  refine enter3 ?_
  unfold S3
  have H := knC (knC (Kn.nil w) hC) hD
  refine big_c hC.le hD.le fun b => ?_
  cases b
  case true =>
    repeat (first | refine rdi neq_self ?_ | refine rdi neqb_self ?_ | refine rdi eql_self ?_ | refine rdi eqlb_self ?_ | refine rdi zq1 ?_ | refine rdi zq2 ?_ | refine rdi zq13 ?_ | refine rdi zq14 ?_ | refine rdi zq16 ?_ | refine rdi zq15 ?_ | refine rdi zq17 ?_ | refine rdi zq4 ?_ | refine rdi zq3 ?_ | refine rdi zq27 ?_ | refine rdi bneq ?_ | refine rdi beql ?_ | refine rdi zq29 ?_ | refine rdi zq30 ?_ | refine rdi zq21 ?_ | refine rdi zq22 ?_ | refine rdi zq23 ?_ | refine rdi zq24 ?_ | refine rdi zq25 ?_ | refine rdi zq26 ?_ | refine rdi len27 ?_ | refine rdi len35 ?_)
    exact hk _ (H.get 0 rfl)
  repeat (first | refine rdi neq_self ?_ | refine rdi neqb_self ?_ | refine rdi eql_self ?_ | refine rdi eqlb_self ?_ | refine rdi zq1 ?_ | refine rdi zq2 ?_ | refine rdi zq13 ?_ | refine rdi zq14 ?_ | refine rdi zq16 ?_ | refine rdi zq15 ?_ | refine rdi zq17 ?_ | refine rdi zq4 ?_ | refine rdi zq3 ?_ | refine rdi zq27 ?_ | refine rdi bneq ?_ | refine rdi beql ?_ | refine rdi zq29 ?_ | refine rdi zq30 ?_ | refine rdi zq21 ?_ | refine rdi zq22 ?_ | refine rdi zq23 ?_ | refine rdi zq24 ?_ | refine rdi zq25 ?_ | refine rdi zq26 ?_ | refine rdi len27 ?_ | refine rdi len35 ?_)
  refine zdi_ (H.get 1 rfl) fun w2 gm Y cy Z cz xs g hG hZ => ?_
  have H := ((H.step g).addG hG.1 hG.2).addI hZ.1 hZ.2
  simp only [List.cons_append, List.nil_append] at H
  repeat (first | refine rdi neq_self ?_ | refine rdi neqb_self ?_ | refine rdi eql_self ?_ | refine rdi eqlb_self ?_ | refine rdi zq1 ?_ | refine rdi zq2 ?_ | refine rdi zq13 ?_ | refine rdi zq14 ?_ | refine rdi zq16 ?_ | refine rdi zq15 ?_ | refine rdi zq17 ?_ | refine rdi zq4 ?_ | refine rdi zq3 ?_ | refine rdi zq27 ?_ | refine rdi bneq ?_ | refine rdi beql ?_ | refine rdi zq29 ?_ | refine rdi zq30 ?_ | refine rdi zq21 ?_ | refine rdi zq22 ?_ | refine rdi zq23 ?_ | refine rdi zq24 ?_ | refine rdi zq25 ?_ | refine rdi zq26 ?_ | refine rdi len27 ?_ | refine rdi len35 ?_)
  refine newG H fun b1 w3 H => ?_
  simp only [List.cons_append, List.nil_append] at H
  rcases hf : firV gm xs with ⟨f, e, ok⟩
  refine rdi (zw_ zmb_ sz26 rfl (H.get 5 rfl)) ?_
  refine zbi_ (H.get 3 rfl) (H.get 4 rfl) fun w4 U d g hU => ?_
  rw [hf] at hU ⊢
  have H := (H.step g).addI hU.1 hU.2
  simp only [List.cons_append, List.nil_append] at H
  refine rdi extract_three_0 (rdi extract_three_1 (rdi extract_three_2 ?_))
  refine rdi (zw_ zmb_ sz26 rfl (H.get 5 rfl)) ?_
  refine zci_ (H.get 3 rfl) (H.get 4 rfl) fun w5 U2 d2 g hU2 => ?_
  rw [hf] at hU2 ⊢
  have H := (H.step g).addI hU2.1 hU2.2
  simp only [List.cons_append, List.nil_append] at H
  refine rdi extract_three_0 (rdi extract_three_1 (rdi extract_three_2 ?_))
  repeat (first | refine rdi neq_self ?_ | refine rdi neqb_self ?_ | refine rdi eql_self ?_ | refine rdi eqlb_self ?_ | refine rdi zq1 ?_ | refine rdi zq2 ?_ | refine rdi zq13 ?_ | refine rdi zq14 ?_ | refine rdi zq16 ?_ | refine rdi zq15 ?_ | refine rdi zq17 ?_ | refine rdi zq4 ?_ | refine rdi zq3 ?_ | refine rdi zq27 ?_ | refine rdi bneq ?_ | refine rdi beql ?_ | refine rdi zq29 ?_ | refine rdi zq30 ?_ | refine rdi zq21 ?_ | refine rdi zq22 ?_ | refine rdi zq23 ?_ | refine rdi zq24 ?_ | refine rdi zq25 ?_ | refine rdi zq26 ?_ | refine rdi len27 ?_ | refine rdi len35 ?_)
  refine zvk_ (H.get 6 rfl).1 (H.get 7 rfl).1 fun w6 g => ?_
  have H := H.step g
  rw [decide_eq_true rfl]
  repeat (first | refine rdi neq_self ?_ | refine rdi neqb_self ?_ | refine rdi eql_self ?_ | refine rdi eqlb_self ?_ | refine rdi zq1 ?_ | refine rdi zq2 ?_ | refine rdi zq13 ?_ | refine rdi zq14 ?_ | refine rdi zq16 ?_ | refine rdi zq15 ?_ | refine rdi zq17 ?_ | refine rdi zq4 ?_ | refine rdi zq3 ?_ | refine rdi zq27 ?_ | refine rdi bneq ?_ | refine rdi beql ?_ | refine rdi zq29 ?_ | refine rdi zq30 ?_ | refine rdi zq21 ?_ | refine rdi zq22 ?_ | refine rdi zq23 ?_ | refine rdi zq24 ?_ | refine rdi zq25 ?_ | refine rdi zq26 ?_ | refine rdi len27 ?_ | refine rdi len35 ?_)
  have H := H.add (P := fun w' => Gr w6 w') fun w' g => g
  simp only [List.cons_append, List.nil_append] at H
  refine zed_ (fun f w' => f 1 = .slice D es.length cap' ∧ Gr w6 w') (fun K hK => ?_) ?_
  · cases ok
    · repeat (first | refine rdi neq_self ?_ | refine rdi neqb_self ?_ | refine rdi eql_self ?_ | refine rdi eqlb_self ?_ | refine rdi zq1 ?_ | refine rdi zq2 ?_ | refine rdi zq13 ?_ | refine rdi zq14 ?_ | refine rdi zq16 ?_ | refine rdi zq15 ?_ | refine rdi zq17 ?_ | refine rdi zq4 ?_ | refine rdi zq3 ?_ | refine rdi zq27 ?_ | refine rdi bneq ?_ | refine rdi beql ?_ | refine rdi zq29 ?_ | refine rdi zq30 ?_ | refine rdi zq21 ?_ | refine rdi zq22 ?_ | refine rdi zq23 ?_ | refine rdi zq24 ?_ | refine rdi zq25 ?_ | refine rdi zq26 ?_ | refine rdi len27 ?_ | refine rdi len35 ?_)
      exact hK _ _ ⟨rfl, H.get 8 rfl⟩
    repeat (first | refine rdi neq_self ?_ | refine rdi neqb_self ?_ | refine rdi eql_self ?_ | refine rdi eqlb_self ?_ | refine rdi zq1 ?_ | refine rdi zq2 ?_ | refine rdi zq13 ?_ | refine rdi zq14 ?_ | refine rdi zq16 ?_ | refine rdi zq15 ?_ | refine rdi zq17 ?_ | refine rdi zq4 ?_ | refine rdi zq3 ?_ | refine rdi zq27 ?_ | refine rdi bneq ?_ | refine rdi beql ?_ | refine rdi zq29 ?_ | refine rdi zq30 ?_ | refine rdi zq21 ?_ | refine rdi zq22 ?_ | refine rdi zq23 ?_ | refine rdi zq24 ?_ | refine rdi zq25 ?_ | refine rdi zq26 ?_ | refine rdi len27 ?_ | refine rdi len35 ?_)
    have hok : (firV gm xs).2.2 = true := by rw [hf]
    refine rdi (zw_ zmb_ sz26 rfl (H.get 5 rfl)) ?_
    refine zvm_ (ws := []) (H.get 3 rfl) (H.get 4 rfl) ⟨zwi_ _, Nat.le_refl _⟩ fun w7 g => ?_
    have H := H.step g
    rw [fir_nil hok, hf]
    repeat (first | refine rdi neq_self ?_ | refine rdi neqb_self ?_ | refine rdi eql_self ?_ | refine rdi eqlb_self ?_ | refine rdi zq1 ?_ | refine rdi zq2 ?_ | refine rdi zq13 ?_ | refine rdi zq14 ?_ | refine rdi zq16 ?_ | refine rdi zq15 ?_ | refine rdi zq17 ?_ | refine rdi zq4 ?_ | refine rdi zq3 ?_ | refine rdi zq27 ?_ | refine rdi bneq ?_ | refine rdi beql ?_ | refine rdi zq29 ?_ | refine rdi zq30 ?_ | refine rdi zq21 ?_ | refine rdi zq22 ?_ | refine rdi zq23 ?_ | refine rdi zq24 ?_ | refine rdi zq25 ?_ | refine rdi zq26 ?_ | refine rdi len27 ?_ | refine rdi len35 ?_)
    have hgf : zab_ gm = true := by
      have := hok
      unfold firV at this
      split at this
      · rename_i h
        exact (Bool.and_eq_true _ _ ▸ h).1
      · cases this
    have htk := zdd_ hgf
    refine zhb_ gm.toks.toNat 0 (fun t f w' => t ≤ gm.toks.toNat ∧ f 15 = .int .i64 (t : Int) ∧ Gr w7 w') ⟨Nat.zero_le _, rfl, Gr.refl _⟩ ?_
    rintro t q w8 N hag ⟨ht, q15, g8⟩ hN
    have H := H.step g8
    have q1 : q 1 = .slice D es.length cap' := hag 1 (by decide)
    have q5 : q 5 = ptrv b1 := hag 5 (by decide)
    have q6 : q 6 = .slice Z xs.length cz := hag 6 (by decide)
    have q7 : q 7 = .slice U f.length d := hag 7 (by decide)
    simp only [q1, q5, q6, q7, q15]
    refine rdi fa26_1 (rdi (ldB3 (H.get 5 rfl) rfl) ?_)
    refine rdi zq23 ?_
    by_cases hlt : t < gm.toks.toNat
    case neg =>
      rw [decide_eq_false (show ¬ (t : Int) < gm.toks from by omega)]
      repeat (first | refine rdi neq_self ?_ | refine rdi neqb_self ?_ | refine rdi eql_self ?_ | refine rdi eqlb_self ?_ | refine rdi zq1 ?_ | refine rdi zq2 ?_ | refine rdi zq13 ?_ | refine rdi zq14 ?_ | refine rdi zq16 ?_ | refine rdi zq15 ?_ | refine rdi zq17 ?_ | refine rdi zq4 ?_ | refine rdi zq3 ?_ | refine rdi zq27 ?_ | refine rdi bneq ?_ | refine rdi beql ?_ | refine rdi zq29 ?_ | refine rdi zq30 ?_ | refine rdi zq21 ?_ | refine rdi zq22 ?_ | refine rdi zq23 ?_ | refine rdi zq24 ?_ | refine rdi zq25 ?_ | refine rdi zq26 ?_ | refine rdi len27 ?_ | refine rdi len35 ?_)
      simp only [zq18, zq19, zq20, zq21, zq22, zq23, zq24, zq25, zq26, zq27, zq28, zq4, zq3, zq1, zq2, zq0, zq29, zq30, zq14, zq15, zq16, zq17, zq13, zq10, zq12, zq11, zq7, zq5, zq6, zq9, zq8, zq31, zq32, ite_T, ite_F, zq33, zq34, zq35, Nat.reduceEqDiff, len22, len24, fa26_0, fa26_1, fa26_2, len27, len35, fa86_0, fa86_1, fa86_2, fa97_0, fa97_1, fa106_0, fa106_1, fa145_0, fa145_1, fa145_2, fa145_3, fa145_4, len192]
      exact hK _ _ ⟨q1, H.get 8 rfl⟩
    rw [decide_eq_true (show (t : Int) < gm.toks from by omega)]
    repeat (first | refine rdi neq_self ?_ | refine rdi neqb_self ?_ | refine rdi eql_self ?_ | refine rdi eqlb_self ?_ | refine rdi zq1 ?_ | refine rdi zq2 ?_ | refine rdi zq13 ?_ | refine rdi zq14 ?_ | refine rdi zq16 ?_ | refine rdi zq15 ?_ | refine rdi zq17 ?_ | refine rdi zq4 ?_ | refine rdi zq3 ?_ | refine rdi zq27 ?_ | refine rdi bneq ?_ | refine rdi beql ?_ | refine rdi zq29 ?_ | refine rdi zq30 ?_ | refine rdi zq21 ?_ | refine rdi zq22 ?_ | refine rdi zq23 ?_ | refine rdi zq24 ?_ | refine rdi zq25 ?_ | refine rdi zq26 ?_ | refine rdi len27 ?_ | refine rdi len35 ?_)
    refine zhb_ gm.toks.toNat 0 (fun u f w' => u ≤ gm.toks.toNat ∧ f 16 = .int .i64 (u : Int) ∧ Gr w8 w') ⟨Nat.zero_le _, rfl, Gr.refl _⟩ ?_
    rintro u p w9 N2 hag2 ⟨hu, p16, g9⟩ hN2
    have H := H.step g9
    have p5 : p 5 = ptrv b1 := (hag2 5 (by decide)).trans q5
    have p6 : p 6 = .slice Z xs.length cz := (hag2 6 (by decide)).trans q6
    have p7 : p 7 = .slice U f.length d := (hag2 7 (by decide)).trans q7
    have p15 : p 15 = .int .i64 (t : Int) := (hag2 15 (by decide)).trans q15
    simp only [p5, p6, p7, p15, p16]
    refine rdi fa26_1 (rdi (ldB3 (H.get 5 rfl) rfl) ?_)
    refine rdi zq23 ?_
    by_cases hlu : u < gm.toks.toNat
    case neg =>
      rw [decide_eq_false (show ¬ (u : Int) < gm.toks from by omega)]
      simp only [p15, zq18, zq19, zq20, zq21, zq22, zq23, zq24, zq25, zq26, zq27, zq28, zq4, zq3, zq1, zq2, zq0, zq29, zq30, zq14, zq15, zq16, zq17, zq13, zq10, zq12, zq11, zq7, zq5, zq6, zq9, zq8, zq31, zq32, ite_T, ite_F, zq33, zq34, zq35, Nat.reduceEqDiff, len22, len24, fa26_0, fa26_1, fa26_2, len27, len35, fa86_0, fa86_1, fa86_2, fa97_0, fa97_1, fa106_0, fa106_1, fa145_0, fa145_1, fa145_2, fa145_3, fa145_4, len192]
      rw [zm_ (by omega) (by omega)]
      exact hN _ _ hlt ⟨by omega, rfl, zf_ g8 g9⟩
    rw [decide_eq_true (show (u : Int) < gm.toks from by omega)]
    repeat (first | refine rdi neq_self ?_ | refine rdi neqb_self ?_ | refine rdi eql_self ?_ | refine rdi eqlb_self ?_ | refine rdi zq1 ?_ | refine rdi zq2 ?_ | refine rdi zq13 ?_ | refine rdi zq14 ?_ | refine rdi zq16 ?_ | refine rdi zq15 ?_ | refine rdi zq17 ?_ | refine rdi zq4 ?_ | refine rdi zq3 ?_ | refine rdi zq27 ?_ | refine rdi bneq ?_ | refine rdi beql ?_ | refine rdi zq29 ?_ | refine rdi zq30 ?_ | refine rdi zq21 ?_ | refine rdi zq22 ?_ | refine rdi zq23 ?_ | refine rdi zq24 ?_ | refine rdi zq25 ?_ | refine rdi zq26 ?_ | refine rdi len27 ?_ | refine rdi len35 ?_)
    refine bs27 [.int .i64 (t : Int)] (by decide) (by simp [Instr.fill, madeCells, Value.cells, rng1]) rfl fun bA wA hbA hbA' gA _ hrA => ?_
    have oA : Own 3 wA w9.heap.size (some ⟨bA, 0, none⟩) 1 [(t : Int)] := hrA _ (Nat.le_refl _)
    refine bs27 [.int .i64 (t : Int), .int .i64 (u : Int)] (by decide) (by simp [Instr.fill, madeCells, Value.cells, rng2]) rfl fun bB wB hbB hbB' gB _ hrB => ?_
    have oB : Own 3 wB wA.heap.size (some ⟨bB, 0, none⟩) 2 [(t : Int), (u : Int)] := hrB _ (Nat.le_refl _)
    refine bs35 [.slice (some ⟨bA, 0, none⟩) 1 1, .slice (some ⟨bB, 0, none⟩) 2 2] (by decide) (by simp [Instr.fill, madeCells, Value.cells, rng2]) rfl fun bL wL hbL hbL' gL _ hrL => ?_
    have hrL := hrL 0 (Nat.zero_le _)
    have hI : Intss wL (some ⟨bL, 0, none⟩) [[(t : Int)], [(t : Int), (u : Int)]] :=
      IssF.is (IssF.of (F := fun _ => True) (Row.src hrL) ((Slots.single (x := [(t : Int)]) (Nat.le_refl 1) (((IntsF.of_own oA).mono fun _ _ => trivial).gr (zf_ gB gL))).append (Slots.single (x := [(t : Int), (u : Int)]) (Nat.le_refl 2) (((IntsF.of_own oB).mono fun _ _ => trivial).gr gL))) (by simp) fun _ => trivial)
    have gAL := zf_ gA (zf_ gB gL)
    refine rdi len35 ?_
    refine zhb_ 2 0 (fun j f w' => j ≤ 2 ∧ f 92 = .int .i64 (j : Int) ∧ Gr wL w') ⟨Nat.zero_le _, rfl, Gr.refl _⟩ ?_
    rintro j y w10 N3 hag3 ⟨hj, y92, g10⟩ hN3
    have H := (H.step gAL).step g10
    have y5 : y 5 = ptrv b1 := (hag3 5 (by decide)).trans p5
    have y6 : y 6 = .slice Z xs.length cz := (hag3 6 (by decide)).trans p6
    have y7 : y 7 = .slice U f.length d := (hag3 7 (by decide)).trans p7
    have y15 : y 15 = .int .i64 (t : Int) := (hag3 15 (by decide)).trans p15
    have y16 : y 16 = .int .i64 (u : Int) := (hag3 16 (by decide)).trans p16
    have y90 : y 90 = .slice (some ⟨bL, 0, none⟩) 2 2 := hag3 90 (by decide)
    have y91 : y 91 = .int .i64 (2 : Nat) := hag3 91 (by decide)
    simp only [y5, y6, y7, y15, y90, y91, y92]
    refine rdi zq23 ?_
    have hII := hI.gr g10
    by_cases hjl : j < 2
    case neg =>
      rw [decide_eq_false (show ¬ (j : Int) < ((2 : Nat) : Int) from by omega)]
      simp only [y16, zq18, zq19, zq20, zq21, zq22, zq23, zq24, zq25, zq26, zq27, zq28, zq4, zq3, zq1, zq2, zq0, zq29, zq30, zq14, zq15, zq16, zq17, zq13, zq10, zq12, zq11, zq7, zq5, zq6, zq9, zq8, zq31, zq32, ite_T, ite_F, zq33, zq34, zq35, Nat.reduceEqDiff, len22, len24, fa26_0, fa26_1, fa26_2, len27, len35, fa86_0, fa86_1, fa86_2, fa97_0, fa97_1, fa106_0, fa106_1, fa145_0, fa145_1, fa145_2, fa145_3, fa145_4, len192]
      rw [zm_ (by omega) (by omega)]
      exact hN2 _ _ hlu ⟨by omega, rfl, zf_ g9 (zf_ gAL g10)⟩
    rw [decide_eq_true (show (j : Int) < ((2 : Nat) : Int) from by omega)]
    repeat (first | refine rdi neq_self ?_ | refine rdi neqb_self ?_ | refine rdi eql_self ?_ | refine rdi eqlb_self ?_ | refine rdi zq1 ?_ | refine rdi zq2 ?_ | refine rdi zq13 ?_ | refine rdi zq14 ?_ | refine rdi zq16 ?_ | refine rdi zq15 ?_ | refine rdi zq17 ?_ | refine rdi zq4 ?_ | refine rdi zq3 ?_ | refine rdi zq27 ?_ | refine rdi bneq ?_ | refine rdi beql ?_ | refine rdi zq29 ?_ | refine rdi zq30 ?_ | refine rdi zq21 ?_ | refine rdi zq22 ?_ | refine rdi zq23 ?_ | refine rdi zq24 ?_ | refine rdi zq25 ?_ | refine rdi zq26 ?_ | refine rdi len27 ?_ | refine rdi len35 ?_)
    obtain ⟨W, cw, u1, u2, u3⟩ := hII.row j hjl
    obtain ⟨v, hv⟩ : ∃ v, rgt [[(t : Int)], [(t : Int), (u : Int)]] j = (t : Int) :: v := by
      match j, hjl with
      | 0, _ => exact ⟨[], rfl⟩
      | 1, _ => exact ⟨[(u : Int)], rfl⟩
    have hwb : zyd_ gm.toks (rgt [[(t : Int)], [(t : Int), (u : Int)]] j) = true := by
      match j, hjl with
      | 0, _ =>
        show zyd_ gm.toks [(t : Int)] = true
        simp [zyd_, allB, inB]
        omega
      | 1, _ =>
        show zyd_ gm.toks [(t : Int), (u : Int)] = true
        simp [zyd_, allB, inB]
        omega
    refine rdi (ixn35 (fun _ => rfl) hjl) ?_
    refine rdi (ld27 u1) ?_
    refine rdi (zw_ zmb_ sz26 rfl (H.get 5 rfl)) ?_
    obtain ⟨k1, k2⟩ := fir_word hok hwb hv
    refine zvm_ (H.get 3 rfl) (H.get 4 rfl) ⟨u3, u2⟩ fun w11 g => ?_
    have H := H.step g
    rw [k1]
    rw [hf] at k2
    repeat (first | refine rdi neq_self ?_ | refine rdi neqb_self ?_ | refine rdi eql_self ?_ | refine rdi eqlb_self ?_ | refine rdi zq1 ?_ | refine rdi zq2 ?_ | refine rdi zq13 ?_ | refine rdi zq14 ?_ | refine rdi zq16 ?_ | refine rdi zq15 ?_ | refine rdi zq17 ?_ | refine rdi zq4 ?_ | refine rdi zq3 ?_ | refine rdi zq27 ?_ | refine rdi bneq ?_ | refine rdi beql ?_ | refine rdi zq29 ?_ | refine rdi zq30 ?_ | refine rdi zq21 ?_ | refine rdi zq22 ?_ | refine rdi zq23 ?_ | refine rdi zq24 ?_ | refine rdi zq25 ?_ | refine rdi zq26 ?_ | refine rdi len27 ?_ | refine rdi len35 ?_)
    cases hs : (seqV gm xs (rgt [[(t : Int)], [(t : Int), (u : Int)]] j)).1
    · repeat (first | refine rdi neq_self ?_ | refine rdi neqb_self ?_ | refine rdi eql_self ?_ | refine rdi eqlb_self ?_ | refine rdi zq1 ?_ | refine rdi zq2 ?_ | refine rdi zq13 ?_ | refine rdi zq14 ?_ | refine rdi zq16 ?_ | refine rdi zq15 ?_ | refine rdi zq17 ?_ | refine rdi zq4 ?_ | refine rdi zq3 ?_ | refine rdi zq27 ?_ | refine rdi bneq ?_ | refine rdi beql ?_ | refine rdi zq29 ?_ | refine rdi zq30 ?_ | refine rdi zq21 ?_ | refine rdi zq22 ?_ | refine rdi zq23 ?_ | refine rdi zq24 ?_ | refine rdi zq25 ?_ | refine rdi zq26 ?_ | refine rdi len27 ?_ | refine rdi len35 ?_)
      simp only [y92, zq18, zq19, zq20, zq21, zq22, zq23, zq24, zq25, zq26, zq27, zq28, zq4, zq3, zq1, zq2, zq0, zq29, zq30, zq14, zq15, zq16, zq17, zq13, zq10, zq12, zq11, zq7, zq5, zq6, zq9, zq8, zq31, zq32, ite_T, ite_F, zq33, zq34, zq35, Nat.reduceEqDiff, len22, len24, fa26_0, fa26_1, fa26_2, len27, len35, fa86_0, fa86_1, fa86_2, fa97_0, fa97_1, fa106_0, fa106_1, fa145_0, fa145_1, fa145_2, fa145_3, fa145_4, len192]
      rw [zm_ (by omega) (by omega)]
      exact hN3 _ _ hjl ⟨by omega, rfl, zf_ g10 g⟩
    · repeat (first | refine rdi neq_self ?_ | refine rdi neqb_self ?_ | refine rdi eql_self ?_ | refine rdi eqlb_self ?_ | refine rdi zq1 ?_ | refine rdi zq2 ?_ | refine rdi zq13 ?_ | refine rdi zq14 ?_ | refine rdi zq16 ?_ | refine rdi zq15 ?_ | refine rdi zq17 ?_ | refine rdi zq4 ?_ | refine rdi zq3 ?_ | refine rdi zq27 ?_ | refine rdi bneq ?_ | refine rdi beql ?_ | refine rdi zq29 ?_ | refine rdi zq30 ?_ | refine rdi zq21 ?_ | refine rdi zq22 ?_ | refine rdi zq23 ?_ | refine rdi zq24 ?_ | refine rdi zq25 ?_ | refine rdi zq26 ?_ | refine rdi len27 ?_ | refine rdi len35 ?_)
      refine has_c (H.get 6 rfl).1 fun w12 g2 => ?_
      rw [decide_eq_true (k2 hs)]
      repeat (first | refine rdi neq_self ?_ | refine rdi neqb_self ?_ | refine rdi eql_self ?_ | refine rdi eqlb_self ?_ | refine rdi zq1 ?_ | refine rdi zq2 ?_ | refine rdi zq13 ?_ | refine rdi zq14 ?_ | refine rdi zq16 ?_ | refine rdi zq15 ?_ | refine rdi zq17 ?_ | refine rdi zq4 ?_ | refine rdi zq3 ?_ | refine rdi zq27 ?_ | refine rdi bneq ?_ | refine rdi beql ?_ | refine rdi zq29 ?_ | refine rdi zq30 ?_ | refine rdi zq21 ?_ | refine rdi zq22 ?_ | refine rdi zq23 ?_ | refine rdi zq24 ?_ | refine rdi zq25 ?_ | refine rdi zq26 ?_ | refine rdi len27 ?_ | refine rdi len35 ?_)
      simp only [y92, zq18, zq19, zq20, zq21, zq22, zq23, zq24, zq25, zq26, zq27, zq28, zq4, zq3, zq1, zq2, zq0, zq29, zq30, zq14, zq15, zq16, zq17, zq13, zq10, zq12, zq11, zq7, zq5, zq6, zq9, zq8, zq31, zq32, ite_T, ite_F, zq33, zq34, zq35, Nat.reduceEqDiff, len22, len24, fa26_0, fa26_1, fa26_2, len27, len35, fa86_0, fa86_1, fa86_2, fa97_0, fa97_1, fa106_0, fa106_1, fa145_0, fa145_1, fa145_2, fa145_3, fa145_4, len192]
      rw [zm_ (by omega) (by omega)]
      exact hN3 _ _ hjl ⟨by omega, rfl, zf_ g10 (zf_ g g2)⟩
  clear hf
  rintro f9 w9 ⟨f1, g⟩
  have H := H.step g
  simp only [f1]
  refine zdi_ (H.get 2 rfl) fun w10 gm2 Y2 cy2 Z2 cz2 xs2 g hG2 hZ2 => ?_
  have H := ((H.step g).addG hG2.1 hG2.2).addI hZ2.1 hZ2.2
  simp only [List.cons_append, List.nil_append] at H
  repeat (first | refine rdi neq_self ?_ | refine rdi neqb_self ?_ | refine rdi eql_self ?_ | refine rdi eqlb_self ?_ | refine rdi zq1 ?_ | refine rdi zq2 ?_ | refine rdi zq13 ?_ | refine rdi zq14 ?_ | refine rdi zq16 ?_ | refine rdi zq15 ?_ | refine rdi zq17 ?_ | refine rdi zq4 ?_ | refine rdi zq3 ?_ | refine rdi zq27 ?_ | refine rdi bneq ?_ | refine rdi beql ?_ | refine rdi zq29 ?_ | refine rdi zq30 ?_ | refine rdi zq21 ?_ | refine rdi zq22 ?_ | refine rdi zq23 ?_ | refine rdi zq24 ?_ | refine rdi zq25 ?_ | refine rdi zq26 ?_ | refine rdi len27 ?_ | refine rdi len35 ?_)
  refine newG H fun b4 w11 H => ?_
  simp only [List.cons_append, List.nil_append] at H
  rcases hf : firV gm2 xs2 with ⟨f2, e2, ok2⟩
  refine rdi (zw_ zmb_ sz26 rfl (H.get 11 rfl)) ?_
  refine zbi_ (H.get 9 rfl) (H.get 10 rfl) fun w12 U3 d3 g hU3 => ?_
  rw [hf] at hU3 ⊢
  have H := (H.step g).addI hU3.1 hU3.2
  simp only [List.cons_append, List.nil_append] at H
  refine rdi extract_three_0 (rdi extract_three_1 (rdi extract_three_2 ?_))
  refine rdi (zw_ zmb_ sz26 rfl (H.get 11 rfl)) ?_
  refine zci_ (H.get 9 rfl) (H.get 10 rfl) fun w13 U4 d4 g hU4 => ?_
  rw [hf] at hU4 ⊢
  have H := (H.step g).addI hU4.1 hU4.2
  simp only [List.cons_append, List.nil_append] at H
  refine rdi extract_three_0 (rdi extract_three_1 (rdi extract_three_2 ?_))
  repeat (first | refine rdi neq_self ?_ | refine rdi neqb_self ?_ | refine rdi eql_self ?_ | refine rdi eqlb_self ?_ | refine rdi zq1 ?_ | refine rdi zq2 ?_ | refine rdi zq13 ?_ | refine rdi zq14 ?_ | refine rdi zq16 ?_ | refine rdi zq15 ?_ | refine rdi zq17 ?_ | refine rdi zq4 ?_ | refine rdi zq3 ?_ | refine rdi zq27 ?_ | refine rdi bneq ?_ | refine rdi beql ?_ | refine rdi zq29 ?_ | refine rdi zq30 ?_ | refine rdi zq21 ?_ | refine rdi zq22 ?_ | refine rdi zq23 ?_ | refine rdi zq24 ?_ | refine rdi zq25 ?_ | refine rdi zq26 ?_ | refine rdi len27 ?_ | refine rdi len35 ?_)
  refine zvk_ (H.get 12 rfl).1 (H.get 13 rfl).1 fun w14 g => ?_
  have H := H.step g
  rw [decide_eq_true rfl]
  repeat (first | refine rdi neq_self ?_ | refine rdi neqb_self ?_ | refine rdi eql_self ?_ | refine rdi eqlb_self ?_ | refine rdi zq1 ?_ | refine rdi zq2 ?_ | refine rdi zq13 ?_ | refine rdi zq14 ?_ | refine rdi zq16 ?_ | refine rdi zq15 ?_ | refine rdi zq17 ?_ | refine rdi zq4 ?_ | refine rdi zq3 ?_ | refine rdi zq27 ?_ | refine rdi bneq ?_ | refine rdi beql ?_ | refine rdi zq29 ?_ | refine rdi zq30 ?_ | refine rdi zq21 ?_ | refine rdi zq22 ?_ | refine rdi zq23 ?_ | refine rdi zq24 ?_ | refine rdi zq25 ?_ | refine rdi zq26 ?_ | refine rdi len27 ?_ | refine rdi len35 ?_)
  exact hk _ (H.get 0 rfl)
end Go.Proofs.Yteabbgaffgpegaa
