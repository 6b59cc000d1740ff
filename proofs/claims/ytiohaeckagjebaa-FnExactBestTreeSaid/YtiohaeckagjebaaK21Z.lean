/- For every input the law of BestTree answers true, and its arguments read afterwards as they read before. No condition. -/
import Derived.Test.YtiohaeckagjebaaRows
import Derived.Test.YtiohaeckagjebaaK21d
import Derived.Test.YtiohaeckagjebaaK21e

set_option linter.unusedVariables false
namespace Go.Proofs.Ytiohaeckagjebaa.fnExactBestTree
open Go Go.ChangeShapes Go.WideShapes Go.ChangeAt Go.RowKit Go.Sh
open Go.ChangeMaps (open_string shut_string)
theorem facts : lightFacts Try.prog 21 Try.f21 Rows.fnExactBestTreeSpec Rows.fnExactBestTreeRow = true := by kernel_rfl
theorem named : Try.prog.funcNamed Rows.fnExactBestTreeRow.func = some 21 := by kernel_rfl
theorem inst : Try.f21.isInstance Try.prog Rows.fnExactBestTreeRow.origin Rows.fnExactBestTreeRow.targs := of_decide_eq_true (by kernel_rfl)
theorem wrap : Try.f21.isWrapper Try.prog Rows.fnExactBestTreeRow.wrapper Rows.fnExactBestTreeRow.mainSum := by unfold Func.isWrapper; first | (rw [if_pos (by decide +kernel)]; kernel_rfl) | (rw [if_neg (by decide +kernel)]; exact ⟨rfl, rfl⟩)
set_option maxRecDepth 100000 in
theorem lifted (os : Os) (started : os.Started) (H : Type) (enc : TypeId × Value → H) :
    ReturnsInHanded {} Try.checked os 21 .any (Rows.fnExactBestTreeSpec.pre6 enc Try.prog Try.f21 Rows.fnExactBestTreeRow.domain false) (Rows.fnExactBestTreeSpec.post enc Try.prog Try.f21 false true false false) := by
  refine returnsInHanded_of_change_sized (C := Try.checked) own started (by kernel_rfl) Try.func21
    (ChangeSpec.witness6 (enc := enc) (C := Try.checked) false ⟨#[], #[.agg #[.int .i64 0, .int .i64 0, .slice none 0 0], .slice none 0 0, .slice none 0 0], []⟩ 8 (by kernel_rfl) (by kernel_rfl) (by kernel_rfl) (by kernel_rfl)) ?_
  intro W base args ds gs before hval0 hW hcnd hsz0 _
  have hval : ∀ (j : Nat) t v, Try.f21.params[j]? = some t → args[j]? = some v → Value.okWide Try.prog W .any base t v := hval0
  have hW' := hW
  obtain ⟨p, q, hA0, hV, rfl, hfz, hnd⟩ := hW
  have hA : DataW.TrodAll enc Try.prog W 0 (fun _ => true) true Try.f21.params.toList args.toList ds p := hA0
  rw [Try.params21] at hA hval
  obtain ⟨v0, vs0, d0, ds0, p0, q0, hargs, rfl, rfl, h0, r0⟩ := trodAll_cons hA
  obtain ⟨v1, vs1, d1, ds1, p1, q1, rfl, rfl, rfl, h1, r1⟩ := trodAll_cons r0
  obtain ⟨v2, vs2, d2, ds2, p2, q2, rfl, rfl, rfl, h2, r2⟩ := trodAll_cons r1
  obtain ⟨rfl, rfl, rfl⟩ := trodAll_nil r2
  obtain rfl : args = #[v0, v1, v2] := by cases args; simp_all
  obtain ⟨rfl, rfl⟩ := trodVars_none hV
  have k0 := h0
  have lt0 : ∀ x ∈ p0, x.block < W.heap.size := by obtain ⟨m, hm⟩ := k0; exact DataW.trod_lt m _ _ _ hm
  obtain ⟨a1, n1, c1, rfl⟩ := okWide_slice Try.underlying22 (hval 1 22 v1 rfl rfl)
  have k1 := h1
  have lt1 : ∀ x ∈ p1, x.block < W.heap.size := by obtain ⟨m, hm⟩ := k1; exact DataW.trod_lt m _ _ _ hm
  obtain ⟨a2, n2, c2, rfl⟩ := okWide_slice Try.underlying22 (hval 2 22 v2 rfl rfl)
  have k2 := h2
  have lt2 : ∀ x ∈ p2, x.block < W.heap.size := by obtain ⟨m, hm⟩ := k2; exact DataW.trod_lt m _ _ _ hm
  obtain ⟨g0, i0⟩ := read_gram (hval 0 31 v0 rfl rfl) h0
  obtain ⟨X1, m1, e1, xs1, hc1, hl1, hle1, i1⟩ := trod_ints Try.underlying22 Try.underlying3 (by kernel_rfl) h1
  obtain ⟨rfl, rfl, rfl⟩ : a1 = X1 ∧ n1 = m1 ∧ c1 = e1 := by simpa [Value.cells] using hc1
  subst hl1
  obtain ⟨X2, m2, e2, xs2, hc2, hl2, hle2, i2⟩ := trod_ints Try.underlying22 Try.underlying3 (by kernel_rfl) h2
  obtain ⟨rfl, rfl, rfl⟩ : a2 = X2 ∧ n2 = m2 ∧ c2 = e2 := by simpa [Value.cells] using hc2
  subst hl2
  clear hA0 hval0 hsz0
  refine (walk_of (args := [v0, .slice a1 xs1.length c1, .slice a2 xs2.length c2]) fun k hk => law_BestTree i0 i1 hle1 i2 hle2 hk).mono fun e W' ⟨he, bel⟩ => ?_
  subst he
  exact ⟨_, rfl, _, _, _, [], _, [], hW', trodAll_mk1 (shut_bool Try.underlying4 _), (trodAll_cons_mk (Below.trod laidOut (by kernel_rfl) (of_decide_eq_true (by kernel_rfl)) k0 bel lt0) (trodAll_cons_mk (Below.trod laidOut (by kernel_rfl) (of_decide_eq_true (by kernel_rfl)) k1 bel lt1) (trodAll_cons_mk (Below.trod laidOut (by kernel_rfl) (of_decide_eq_true (by kernel_rfl)) k2 bel lt2) trodAll_mk0))), rfl, bel.frame _, fun h => by cases h⟩
theorem over : Rows.fnExactBestTreeRow.holds Try.pinned (OpenSpec.ofChange Rows.fnExactBestTreeSpec) :=
  OpenClaim.holds_of_wide 21 Try.f21 rfl rfl rfl rfl rfl rfl rfl ⟨rfl, rfl, rfl, rfl, rfl⟩ rfl rfl rfl rfl rfl named Try.func21 (facts_of rfl rfl facts)
    inst wrap
    (fun os started H enc _ => lifted os started H enc)
theorem proved : Rows.FnExactBestTreeSaid := over
end Go.Proofs.Ytiohaeckagjebaa.fnExactBestTree
namespace Go.Proofs.Ytiohaeckagjebaa
theorem fnExactBestTree_holds : Rows.FnExactBestTreeSaid := fnExactBestTree.proved
#print axioms fnExactBestTree_holds
end Go.Proofs.Ytiohaeckagjebaa
