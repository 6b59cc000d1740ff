/- For every input the law of Rewrites answers true, and its arguments read afterwards as they read before. No condition. -/
import Derived.Test.YteabbgaffgpegaaRows
import Derived.Test.YteabbgaffgpegaaKRewritese
import Derived.Test.YteabbgaffgpegaaKRewritesb

set_option linter.unusedVariables false
namespace Go.Proofs.Yteabbgaffgpegaa.fnRewrites
open Go Go.ChangeShapes Go.WideShapes Go.ChangeAt Go.RowKit Go.Sh
open Go.ChangeMaps (open_string shut_string)
theorem facts : zbh_ Try.prog 4 Try.f4 Rows.fnRewritesSpec Rows.fnRewritesRow = true := by kernel_rfl
theorem named : Try.prog.funcNamed Rows.fnRewritesRow.func = some 4 := by kernel_rfl
theorem inst : Try.f4.isInstance Try.prog Rows.fnRewritesRow.origin Rows.fnRewritesRow.targs := of_decide_eq_true (by kernel_rfl)
theorem wrap : Try.f4.isWrapper Try.prog Rows.fnRewritesRow.wrapper Rows.fnRewritesRow.mainSum := by unfold Func.isWrapper; first | (rw [if_pos (by decide +kernel)]; kernel_rfl) | (rw [if_neg (by decide +kernel)]; exact ⟨rfl, rfl⟩)
set_option maxRecDepth 100000 in
theorem lifted (os : Os) (started : os.Started) (H : Type) (enc : TypeId × Value → H) :
    ReturnsInHanded {} Try.checked os 4 .any (Rows.fnRewritesSpec.pre6 enc Try.prog Try.f4 Rows.fnRewritesRow.domain false) (Rows.fnRewritesSpec.post enc Try.prog Try.f4 false true false false) := by
  refine returnsInHanded_of_change_sized (C := Try.checked) own started (by kernel_rfl) Try.func4
    (ChangeSpec.witness6 (enc := enc) (C := Try.checked) false ⟨#[], #[.slice none 0 0, .slice none 0 0], []⟩ 8 (by kernel_rfl) (by kernel_rfl) (by kernel_rfl) (by kernel_rfl)) ?_
  intro W base args ds gs before hval0 hW hcnd hsz0 _
  have hval : ∀ (j : Nat) t v, Try.f4.params[j]? = some t → args[j]? = some v → Value.okWide Try.prog W .any base t v := hval0
  have hW' := hW
  obtain ⟨p, q, hA0, hV, rfl, hfz, hnd⟩ := hW
  have hA : DataW.TrodAll enc Try.prog W 0 (fun _ => true) true Try.f4.params.toList args.toList ds p := hA0
  rw [Try.params4] at hA hval
  obtain ⟨v0, vs0, d0, ds0, p0, q0, hargs, rfl, rfl, h0, r0⟩ := trodAll_cons hA
  obtain ⟨v1, vs1, d1, ds1, p1, q1, rfl, rfl, rfl, h1, r1⟩ := trodAll_cons r0
  obtain ⟨rfl, rfl, rfl⟩ := trodAll_nil r1
  obtain rfl : args = #[v0, v1] := by cases args; simp_all
  obtain ⟨rfl, rfl⟩ := trodVars_none hV
  obtain ⟨a0, n0, c0, rfl⟩ := okWide_slice Try.underlying22 (hval 0 22 v0 rfl rfl)
  have k0 := h0
  have lt0 : ∀ x ∈ p0, x.block < W.heap.size := by obtain ⟨m, hm⟩ := k0; exact DataW.trod_lt m _ _ _ hm
  obtain ⟨a1, n1, c1, rfl⟩ := okWide_slice Try.underlying22 (hval 1 22 v1 rfl rfl)
  have k1 := h1
  have lt1 : ∀ x ∈ p1, x.block < W.heap.size := by obtain ⟨m, hm⟩ := k1; exact DataW.trod_lt m _ _ _ hm
  obtain ⟨X0, m0, e0, xs0, hc0, hl0, hle0, i0⟩ := zkj_ Try.underlying22 Try.underlying5 (by kernel_rfl) h0
  obtain ⟨rfl, rfl, rfl⟩ : a0 = X0 ∧ n0 = m0 ∧ c0 = e0 := by simpa [Value.cells] using hc0
  subst hl0
  obtain ⟨X1, m1, e1, xs1, hc1, hl1, hle1, i1⟩ := zkj_ Try.underlying22 Try.underlying5 (by kernel_rfl) h1
  obtain ⟨rfl, rfl, rfl⟩ : a1 = X1 ∧ n1 = m1 ∧ c1 = e1 := by simpa [Value.cells] using hc1
  subst hl1
  clear hA0 hval0 hsz0
  refine (walk_of ⟨_, Try.func4, by kernel_rfl, by kernel_rfl⟩ (args := [.slice a0 xs0.length c0, .slice a1 xs1.length c1]) fun k hk => zcp_ i0 i1 hk).mono fun e W' ⟨he, bel⟩ => ?_
  subst he
  exact ⟨_, rfl, _, _, _, [], _, [], hW', trodAll_mk1 (shut_bool Try.underlying4 _), (trodAll_cons_mk (Below.trod laidOut (by kernel_rfl) (of_decide_eq_true (by kernel_rfl)) k0 bel lt0) (trodAll_cons_mk (Below.trod laidOut (by kernel_rfl) (of_decide_eq_true (by kernel_rfl)) k1 bel lt1) trodAll_mk0)), rfl, bel.frame _, fun h => by cases h⟩
theorem over : Rows.fnRewritesRow.holds Try.pinned (OpenSpec.ofChange Rows.fnRewritesSpec) :=
  OpenClaim.holds_of_wide 4 Try.f4 rfl rfl rfl rfl rfl rfl rfl ⟨rfl, rfl, rfl, rfl, rfl⟩ rfl rfl rfl rfl rfl named Try.func4 (facts_of rfl rfl facts)
    inst wrap
    (fun os started H enc _ => lifted os started H enc)
theorem proved : Rows.FnRewritesSaid := over
end Go.Proofs.Yteabbgaffgpegaa.fnRewrites
namespace Go.Proofs.Yteabbgaffgpegaa
theorem fnRewrites_holds : Rows.FnRewritesSaid := fnRewrites.proved
#print axioms fnRewrites_holds
end Go.Proofs.Yteabbgaffgpegaa
