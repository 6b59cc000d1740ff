/- For every input the law of StarOf answers true, and its arguments read afterwards as they read before. No condition. -/
import Derived.Test.YtiohaeckagjebaaRows
import Derived.Test.YtiohaeckagjebaaShH8
import Derived.Test.YtiohaeckagjebaaShRG
import Derived.Test.YtiohaeckagjebaaShR
import Derived.Test.YtiohaeckagjebaaShIO
set_option linter.unusedVariables false
namespace Go.Proofs.Ytiohaeckagjebaa.fnExactStarOf
open Go Go.ChangeShapes Go.WideShapes Go.ChangeAt Go.RowKit Go.Sh
open Go.ChangeMaps (open_string shut_string)
theorem facts : lightFacts Try.prog 5 Try.f5 Rows.fnExactStarOfSpec Rows.fnExactStarOfRow = true := by kernel_rfl
theorem named : Try.prog.funcNamed Rows.fnExactStarOfRow.func = some 5 := by kernel_rfl
theorem inst : Try.f5.isInstance Try.prog Rows.fnExactStarOfRow.origin Rows.fnExactStarOfRow.targs := of_decide_eq_true (by kernel_rfl)
theorem wrap : Try.f5.isWrapper Try.prog Rows.fnExactStarOfRow.wrapper Rows.fnExactStarOfRow.mainSum := by unfold Func.isWrapper; first | (rw [if_pos (by decide +kernel)]; kernel_rfl) | (rw [if_neg (by decide +kernel)]; exact ⟨rfl, rfl⟩)
set_option maxRecDepth 100000 in
theorem lifted (os : Os) (started : os.Started) (H : Type) (enc : TypeId × Value → H) :
    ReturnsInHanded {} Try.checked os 5 .any (Rows.fnExactStarOfSpec.pre6 enc Try.prog Try.f5 Rows.fnExactStarOfRow.domain false) (Rows.fnExactStarOfSpec.post enc Try.prog Try.f5 false true false false) := by
  refine returnsInHanded_of_change_sized (C := Try.checked) own started (by kernel_rfl) Try.func5
    (ChangeSpec.witness6 (enc := enc) (C := Try.checked) false ⟨#[], #[.agg #[.int .i64 0, .int .i64 0, .slice none 0 0]], []⟩ 8 (by kernel_rfl) (by kernel_rfl) (by kernel_rfl) (by kernel_rfl)) ?_
  intro W base args ds gs before hval0 hW hcnd hsz0 _
  have hval : ∀ (j : Nat) t v, Try.f5.params[j]? = some t → args[j]? = some v → Value.okWide Try.prog W .any base t v := hval0
  have hW' := hW
  obtain ⟨p, q, hA0, hV, rfl, hfz, hnd⟩ := hW
  have hA : DataW.TrodAll enc Try.prog W 0 (fun _ => true) true Try.f5.params.toList args.toList ds p := hA0
  rw [Try.params5] at hA hval
  obtain ⟨v0, vs0, d0, ds0, p0, q0, hargs, rfl, rfl, h0, r0⟩ := trodAll_cons hA
  obtain ⟨rfl, rfl, rfl⟩ := trodAll_nil r0
  obtain rfl : args = #[v0] := by cases args; simp_all
  obtain ⟨rfl, rfl⟩ := trodVars_none hV
  have k0 := h0
  have lt0 : ∀ x ∈ p0, x.block < W.heap.size := by obtain ⟨m, hm⟩ := k0; exact DataW.trod_lt m _ _ _ hm
  obtain ⟨g0, i0⟩ := read_gram (hval 0 31 v0 rfl rfl) h0
  clear hA0 hval0 hsz0
  refine (walk_of (args := [v0]) fun k hk => law_StarOf i0 hk).mono fun e W' ⟨he, bel⟩ => ?_
  subst he
  exact ⟨_, rfl, _, _, _, [], _, [], hW', trodAll_mk1 (shut_bool Try.underlying4 _), (trodAll_cons_mk (Below.trod laidOut (by kernel_rfl) (of_decide_eq_true (by kernel_rfl)) k0 bel lt0) trodAll_mk0), rfl, bel.frame _, fun h => by cases h⟩
theorem over : Rows.fnExactStarOfRow.holds Try.pinned (OpenSpec.ofChange Rows.fnExactStarOfSpec) :=
  OpenClaim.holds_of_wide 5 Try.f5 rfl rfl rfl rfl rfl rfl rfl ⟨rfl, rfl, rfl, rfl, rfl⟩ rfl rfl rfl rfl rfl named Try.func5 (facts_of rfl rfl facts)
    inst wrap
    (fun os started H enc _ => lifted os started H enc)
theorem proved : Rows.FnExactStarOfSaid := over
end Go.Proofs.Ytiohaeckagjebaa.fnExactStarOf
namespace Go.Proofs.Ytiohaeckagjebaa
theorem fnExactStarOf_holds : Rows.FnExactStarOfSaid := fnExactStarOf.proved
#print axioms fnExactStarOf_holds
end Go.Proofs.Ytiohaeckagjebaa
