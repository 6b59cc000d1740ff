/- For every input the law of TreesUpTo answers true, and its arguments read afterwards as they read before. No condition. -/
import Derived.Test.YtiohaeckagjebaaRows
import Derived.Test.YtiohaeckagjebaaK22e

set_option linter.unusedVariables false
namespace Go.Proofs.Ytiohaeckagjebaa.fnExactTreesUpTo
open Go Go.ChangeShapes Go.WideShapes Go.ChangeAt Go.RowKit Go.Sh
open Go.ChangeMaps (open_string shut_string)
theorem facts : lightFacts Try.prog 22 Try.f22 Rows.fnExactTreesUpToSpec Rows.fnExactTreesUpToRow = true := by kernel_rfl
theorem named : Try.prog.funcNamed Rows.fnExactTreesUpToRow.func = some 22 := by kernel_rfl
theorem inst : Try.f22.isInstance Try.prog Rows.fnExactTreesUpToRow.origin Rows.fnExactTreesUpToRow.targs := of_decide_eq_true (by kernel_rfl)
theorem wrap : Try.f22.isWrapper Try.prog Rows.fnExactTreesUpToRow.wrapper Rows.fnExactTreesUpToRow.mainSum := by unfold Func.isWrapper; first | (rw [if_pos (by decide +kernel)]; kernel_rfl) | (rw [if_neg (by decide +kernel)]; exact ⟨rfl, rfl⟩)
set_option maxRecDepth 100000 in
theorem lifted (os : Os) (started : os.Started) (H : Type) (enc : TypeId × Value → H) :
    ReturnsInHanded {} Try.checked os 22 .any (Rows.fnExactTreesUpToSpec.pre6 enc Try.prog Try.f22 Rows.fnExactTreesUpToRow.domain false) (Rows.fnExactTreesUpToSpec.post enc Try.prog Try.f22 false true false false) := by
  refine returnsInHanded_of_change_sized (C := Try.checked) own started (by kernel_rfl) Try.func22
    (ChangeSpec.witness6 (enc := enc) (C := Try.checked) false ⟨#[], #[.agg #[.int .i64 0, .int .i64 0, .slice none 0 0], .slice none 0 0, .int .i64 0, .int .i64 0], []⟩ 8 (by kernel_rfl) (by kernel_rfl) (by kernel_rfl) (by kernel_rfl)) ?_
  intro W base args ds gs before hval0 hW hcnd hsz0 _
  have hval : ∀ (j : Nat) t v, Try.f22.params[j]? = some t → args[j]? = some v → Value.okWide Try.prog W .any base t v := hval0
  have hW' := hW
  obtain ⟨p, q, hA0, hV, rfl, hfz, hnd⟩ := hW
  have hA : DataW.TrodAll enc Try.prog W 0 (fun _ => true) true Try.f22.params.toList args.toList ds p := hA0
  rw [Try.params22] at hA hval
  obtain ⟨v0, vs0, d0, ds0, p0, q0, hargs, rfl, rfl, h0, r0⟩ := trodAll_cons hA
  obtain ⟨v1, vs1, d1, ds1, p1, q1, rfl, rfl, rfl, h1, r1⟩ := trodAll_cons r0
  obtain ⟨v2, vs2, d2, ds2, p2, q2, rfl, rfl, rfl, h2, r2⟩ := trodAll_cons r1
  obtain ⟨v3, vs3, d3, ds3, p3, q3, rfl, rfl, rfl, h3, r3⟩ := trodAll_cons r2
  obtain ⟨rfl, rfl, rfl⟩ := trodAll_nil r3
  obtain rfl : args = #[v0, v1, v2, v3] := by cases args; simp_all
  obtain ⟨rfl, rfl⟩ := trodVars_none hV
  have k0 := h0
  have lt0 : ∀ x ∈ p0, x.block < W.heap.size := by obtain ⟨m, hm⟩ := k0; exact DataW.trod_lt m _ _ _ hm
  obtain ⟨a1, n1, c1, rfl⟩ := okWide_slice Try.underlying22 (hval 1 22 v1 rfl rfl)
  have k1 := h1
  have lt1 : ∀ x ∈ p1, x.block < W.heap.size := by obtain ⟨m, hm⟩ := k1; exact DataW.trod_lt m _ _ _ hm
  obtain ⟨g0, i0⟩ := read_gram (hval 0 31 v0 rfl rfl) h0
  obtain ⟨X1, m1, e1, xs1, hc1, hl1, hle1, i1⟩ := trod_ints Try.underlying22 Try.underlying3 (by kernel_rfl) h1
  obtain ⟨rfl, rfl, rfl⟩ : a1 = X1 ∧ n1 = m1 ∧ c1 = e1 := by simpa [Value.cells] using hc1
  subst hl1
  obtain ⟨a2, rfl, rfl, rfl, w2⟩ := open_int Try.underlying3 (hval 2 3 v2 rfl rfl) h2
  obtain ⟨a3, rfl, rfl, rfl, w3⟩ := open_int Try.underlying3 (hval 3 3 v3 rfl rfl) h3
  clear hA0 hval0 hsz0
  refine (walk_of (args := [v0, .slice a1 xs1.length c1, .int .i64 a2, .int .i64 a3]) fun k hk => law_TreesUpTo i0 i1 hle1 hk).mono fun e W' ⟨he, bel⟩ => ?_
  subst he
  exact ⟨_, rfl, _, _, _, [], _, [], hW', trodAll_mk1 (shut_bool Try.underlying4 _), (trodAll_cons_mk (Below.trod laidOut (by kernel_rfl) (of_decide_eq_true (by kernel_rfl)) k0 bel lt0) (trodAll_cons_mk (Below.trod laidOut (by kernel_rfl) (of_decide_eq_true (by kernel_rfl)) k1 bel lt1) (trodAll_cons_mk (shut_int Try.underlying3 w2) (trodAll_cons_mk (shut_int Try.underlying3 w3) trodAll_mk0)))), rfl, bel.frame _, fun h => by cases h⟩
theorem over : Rows.fnExactTreesUpToRow.holds Try.pinned (OpenSpec.ofChange Rows.fnExactTreesUpToSpec) :=
  OpenClaim.holds_of_wide 22 Try.f22 rfl rfl rfl rfl rfl rfl rfl ⟨rfl, rfl, rfl, rfl, rfl⟩ rfl rfl rfl rfl rfl named Try.func22 (facts_of rfl rfl facts)
    inst wrap
    (fun os started H enc _ => lifted os started H enc)
theorem proved : Rows.FnExactTreesUpToSaid := over
end Go.Proofs.Ytiohaeckagjebaa.fnExactTreesUpTo
namespace Go.Proofs.Ytiohaeckagjebaa
theorem fnExactTreesUpTo_holds : Rows.FnExactTreesUpToSaid := fnExactTreesUpTo.proved
#print axioms fnExactTreesUpTo_holds
end Go.Proofs.Ytiohaeckagjebaa
