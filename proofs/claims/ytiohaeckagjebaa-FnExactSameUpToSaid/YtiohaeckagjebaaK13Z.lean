/- For every input the law of SameUpTo answers true, and its arguments read afterwards as they read before. No condition. -/
import Derived.Test.YtiohaeckagjebaaRows
import Derived.Test.YtiohaeckagjebaaK13g
import Derived.Test.YtiohaeckagjebaaK13h

set_option linter.unusedVariables false
namespace Go.Proofs.Ytiohaeckagjebaa.fnExactSameUpTo
open Go Go.ChangeShapes Go.WideShapes Go.ChangeAt Go.RowKit Go.Sh
open Go.ChangeMaps (open_string shut_string)
theorem facts : lightFacts Try.prog 13 Try.f13 Rows.fnExactSameUpToSpec Rows.fnExactSameUpToRow = true := by kernel_rfl
theorem named : Try.prog.funcNamed Rows.fnExactSameUpToRow.func = some 13 := by kernel_rfl
theorem inst : Try.f13.isInstance Try.prog Rows.fnExactSameUpToRow.origin Rows.fnExactSameUpToRow.targs := of_decide_eq_true (by kernel_rfl)
theorem wrap : Try.f13.isWrapper Try.prog Rows.fnExactSameUpToRow.wrapper Rows.fnExactSameUpToRow.mainSum := by unfold Func.isWrapper; first | (rw [if_pos (by decide +kernel)]; kernel_rfl) | (rw [if_neg (by decide +kernel)]; exact ⟨rfl, rfl⟩)
set_option maxRecDepth 100000 in
theorem lifted (os : Os) (started : os.Started) (H : Type) (enc : TypeId × Value → H) :
    ReturnsInHanded {} Try.checked os 13 .any (Rows.fnExactSameUpToSpec.pre6 enc Try.prog Try.f13 Rows.fnExactSameUpToRow.domain false) (Rows.fnExactSameUpToSpec.post enc Try.prog Try.f13 false true false false) := by
  refine returnsInHanded_of_change_sized (C := Try.checked) own started (by kernel_rfl) Try.func13
    (ChangeSpec.witness6 (enc := enc) (C := Try.checked) false ⟨#[], #[.agg #[.int .i64 0, .int .i64 0, .slice none 0 0], .agg #[.int .i64 0, .int .i64 0, .slice none 0 0], .int .i64 0], []⟩ 8 (by kernel_rfl) (by kernel_rfl) (by kernel_rfl) (by kernel_rfl)) ?_
  intro W base args ds gs before hval0 hW hcnd hsz0 _
  have hval : ∀ (j : Nat) t v, Try.f13.params[j]? = some t → args[j]? = some v → Value.okWide Try.prog W .any base t v := hval0
  have hW' := hW
  obtain ⟨p, q, hA0, hV, rfl, hfz, hnd⟩ := hW
  have hA : DataW.TrodAll enc Try.prog W 0 (fun _ => true) true Try.f13.params.toList args.toList ds p := hA0
  rw [Try.params13] at hA hval
  obtain ⟨v0, vs0, d0, ds0, p0, q0, hargs, rfl, rfl, h0, r0⟩ := trodAll_cons hA
  obtain ⟨v1, vs1, d1, ds1, p1, q1, rfl, rfl, rfl, h1, r1⟩ := trodAll_cons r0
  obtain ⟨v2, vs2, d2, ds2, p2, q2, rfl, rfl, rfl, h2, r2⟩ := trodAll_cons r1
  obtain ⟨rfl, rfl, rfl⟩ := trodAll_nil r2
  obtain rfl : args = #[v0, v1, v2] := by cases args; simp_all
  obtain ⟨rfl, rfl⟩ := trodVars_none hV
  have k0 := h0
  have lt0 : ∀ x ∈ p0, x.block < W.heap.size := by obtain ⟨m, hm⟩ := k0; exact DataW.trod_lt m _ _ _ hm
  have k1 := h1
  have lt1 : ∀ x ∈ p1, x.block < W.heap.size := by obtain ⟨m, hm⟩ := k1; exact DataW.trod_lt m _ _ _ hm
  obtain ⟨g0, i0⟩ := read_gram (hval 0 31 v0 rfl rfl) h0
  obtain ⟨g1, i1⟩ := read_gram (hval 1 31 v1 rfl rfl) h1
  obtain ⟨a2, rfl, rfl, rfl, w2⟩ := open_int Try.underlying3 (hval 2 3 v2 rfl rfl) h2
  clear hA0 hval0 hsz0
  refine (walk_of (args := [v0, v1, .int .i64 a2]) fun k hk => law_SameUpTo i0 i1 hk).mono fun e W' ⟨he, bel⟩ => ?_
  subst he
  exact ⟨_, rfl, _, _, _, [], _, [], hW', trodAll_mk1 (shut_bool Try.underlying4 _), (trodAll_cons_mk (Below.trod laidOut (by kernel_rfl) (of_decide_eq_true (by kernel_rfl)) k0 bel lt0) (trodAll_cons_mk (Below.trod laidOut (by kernel_rfl) (of_decide_eq_true (by kernel_rfl)) k1 bel lt1) (trodAll_cons_mk (shut_int Try.underlying3 w2) trodAll_mk0))), rfl, bel.frame _, fun h => by cases h⟩
theorem over : Rows.fnExactSameUpToRow.holds Try.pinned (OpenSpec.ofChange Rows.fnExactSameUpToSpec) :=
  OpenClaim.holds_of_wide 13 Try.f13 rfl rfl rfl rfl rfl rfl rfl ⟨rfl, rfl, rfl, rfl, rfl⟩ rfl rfl rfl rfl rfl named Try.func13 (facts_of rfl rfl facts)
    inst wrap
    (fun os started H enc _ => lifted os started H enc)
theorem proved : Rows.FnExactSameUpToSaid := over
end Go.Proofs.Ytiohaeckagjebaa.fnExactSameUpTo
namespace Go.Proofs.Ytiohaeckagjebaa
theorem fnExactSameUpTo_holds : Rows.FnExactSameUpToSaid := fnExactSameUpTo.proved
#print axioms fnExactSameUpTo_holds
end Go.Proofs.Ytiohaeckagjebaa
