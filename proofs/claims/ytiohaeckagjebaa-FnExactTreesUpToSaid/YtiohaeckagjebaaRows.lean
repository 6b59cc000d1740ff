/-
  No cell of these rows narrows 'for every input' (looked for: loops, veiled, ifaces, maps, wideKeys, modest, calm, conditions, laid).
  DERIVED. THE GIVEN ROWS OF THIS SEAT. 20 by the template 'for every input the law returns true; each argument reads behind the call as it read before'; 0 by the template 'total and deterministic' (their statements: YtiohaeckagjebaaTotals.lean).
  GIVEN WITH THE SEED: the statements are not yours to turn. If you find one false, say at which input.
  Laid BY PROGRAM, IN A SANDBOX (cutbox-rows.mjs): the forced cells as the released guide's own fill.sh prints them over the translation 61ca82a861d96423… (all of the seat's roots in one cut). By AI agents, Wed Nov 11 2026. No macro, syntax, notation, axiom, sorry.
-/
import Derived.Test.YtiohaeckagjebaaChecked
import GoSem.Claim
import GoSem.ClaimJoined
import GoSem.ClaimMapViews
import Derived.JoinedTies
import Derived.KernelRfl
namespace Go.Proofs.Ytiohaeckagjebaa
/- THE CELL 'sum', in the pinned program and in every row, IS THE sha256 OF THE DUMP (.gsa) THAT YtiohaeckagjebaaProg.lean LOADS. Nothing in Lean hashes anything: it is a label: what it is worth is what the hold of that sum in a sandbox is worth. -/
noncomputable def Try.pinned : Pinned := { name := "ytiohaeckagjebaa", sum := "61ca82a861d96423fb72aa1906d4fb5fe6b851da504e5343a40eec714f7dd742", checked := Try.checked }
namespace Rows
def none {H : Type} : Left H := { results := [], args := [] }

/-- 'laws.FnExactPumpWord': WHATEVER THE INPUT: true; the input reads as it did. -/
def fnExactPumpWordSpec : ChangeSpec := { name := "fnExactPumpWord", fn := fun _ => fun
  | [d1, d2, d3] => { results := [.lit (.bool true)], args := [d1, d2, d3] }
  | _ => none }
def fnExactPumpWordRow : OpenClaim := { program := "ytiohaeckagjebaa", sum := "61ca82a861d96423fb72aa1906d4fb5fe6b851da504e5343a40eec714f7dd742", func := "loop.example/g00758/laws.FnExactPumpWord", spec := "fnExactPumpWord", unfollowed := true, recurses := true, plainKeys := false, apart := false }
def FnExactPumpWordSaid : Prop := fnExactPumpWordRow.holds Try.pinned (OpenSpec.ofChange fnExactPumpWordSpec)

/-- ITS FALSE NEIGHBOUR: 'it returns false'. Refute it at one input. -/
def fnExactPumpWordWrong : ChangeSpec := { name := "fnExactPumpWord", fn := fun _ => fun
  | [d1, d2, d3] => { results := [.lit (.bool false)], args := [d1, d2, d3] }
  | _ => none }
def FnExactPumpWordWrongFalsely : Prop := fnExactPumpWordRow.holds Try.pinned (OpenSpec.ofChange fnExactPumpWordWrong)

/-- 'laws.FnExactLongEnough': WHATEVER THE INPUT: true; the input reads as it did. -/
def fnExactLongEnoughSpec : ChangeSpec := { name := "fnExactLongEnough", fn := fun _ => fun
  | [d] => { results := [.lit (.bool true)], args := [d] }
  | _ => none }
def fnExactLongEnoughRow : OpenClaim := { program := "ytiohaeckagjebaa", sum := "61ca82a861d96423fb72aa1906d4fb5fe6b851da504e5343a40eec714f7dd742", func := "loop.example/g00758/laws.FnExactLongEnough", spec := "fnExactLongEnough", unfollowed := true, recurses := true, plainKeys := false, apart := false }
def FnExactLongEnoughSaid : Prop := fnExactLongEnoughRow.holds Try.pinned (OpenSpec.ofChange fnExactLongEnoughSpec)

/-- ITS FALSE NEIGHBOUR: 'it returns false'. Refute it at one input. -/
def fnExactLongEnoughWrong : ChangeSpec := { name := "fnExactLongEnough", fn := fun _ => fun
  | [d] => { results := [.lit (.bool false)], args := [d] }
  | _ => none }
def FnExactLongEnoughWrongFalsely : Prop := fnExactLongEnoughRow.holds Try.pinned (OpenSpec.ofChange fnExactLongEnoughWrong)

/-- 'laws.FnExactStarOf': WHATEVER THE INPUT: true; the input reads as it did. -/
def fnExactStarOfSpec : ChangeSpec := { name := "fnExactStarOf", fn := fun _ => fun
  | [d] => { results := [.lit (.bool true)], args := [d] }
  | _ => none }
def fnExactStarOfRow : OpenClaim := { program := "ytiohaeckagjebaa", sum := "61ca82a861d96423fb72aa1906d4fb5fe6b851da504e5343a40eec714f7dd742", func := "loop.example/g00758/laws.FnExactStarOf", spec := "fnExactStarOf", unfollowed := true, recurses := true, plainKeys := false, apart := false }
def FnExactStarOfSaid : Prop := fnExactStarOfRow.holds Try.pinned (OpenSpec.ofChange fnExactStarOfSpec)

/-- ITS FALSE NEIGHBOUR: 'it returns false'. Refute it at one input. -/
def fnExactStarOfWrong : ChangeSpec := { name := "fnExactStarOf", fn := fun _ => fun
  | [d] => { results := [.lit (.bool false)], args := [d] }
  | _ => none }
def FnExactStarOfWrongFalsely : Prop := fnExactStarOfRow.holds Try.pinned (OpenSpec.ofChange fnExactStarOfWrong)

/-- 'laws.FnExactJoinOf': WHATEVER THE INPUT: true; the input reads as it did. -/
def fnExactJoinOfSpec : ChangeSpec := { name := "fnExactJoinOf", fn := fun _ => fun
  | [d1, d2] => { results := [.lit (.bool true)], args := [d1, d2] }
  | _ => none }
def fnExactJoinOfRow : OpenClaim := { program := "ytiohaeckagjebaa", sum := "61ca82a861d96423fb72aa1906d4fb5fe6b851da504e5343a40eec714f7dd742", func := "loop.example/g00758/laws.FnExactJoinOf", spec := "fnExactJoinOf", unfollowed := true, recurses := true, plainKeys := false, apart := false }
def FnExactJoinOfSaid : Prop := fnExactJoinOfRow.holds Try.pinned (OpenSpec.ofChange fnExactJoinOfSpec)

/-- ITS FALSE NEIGHBOUR: 'it returns false'. Refute it at one input. -/
def fnExactJoinOfWrong : ChangeSpec := { name := "fnExactJoinOf", fn := fun _ => fun
  | [d1, d2] => { results := [.lit (.bool false)], args := [d1, d2] }
  | _ => none }
def FnExactJoinOfWrongFalsely : Prop := fnExactJoinOfRow.holds Try.pinned (OpenSpec.ofChange fnExactJoinOfWrong)

/-- 'laws.FnExactUnionOf': WHATEVER THE INPUT: true; the input reads as it did. -/
def fnExactUnionOfSpec : ChangeSpec := { name := "fnExactUnionOf", fn := fun _ => fun
  | [d1, d2] => { results := [.lit (.bool true)], args := [d1, d2] }
  | _ => none }
def fnExactUnionOfRow : OpenClaim := { program := "ytiohaeckagjebaa", sum := "61ca82a861d96423fb72aa1906d4fb5fe6b851da504e5343a40eec714f7dd742", func := "loop.example/g00758/laws.FnExactUnionOf", spec := "fnExactUnionOf", unfollowed := true, recurses := true, plainKeys := false, apart := false }
def FnExactUnionOfSaid : Prop := fnExactUnionOfRow.holds Try.pinned (OpenSpec.ofChange fnExactUnionOfSpec)

/-- ITS FALSE NEIGHBOUR: 'it returns false'. Refute it at one input. -/
def fnExactUnionOfWrong : ChangeSpec := { name := "fnExactUnionOf", fn := fun _ => fun
  | [d1, d2] => { results := [.lit (.bool false)], args := [d1, d2] }
  | _ => none }
def FnExactUnionOfWrongFalsely : Prop := fnExactUnionOfRow.holds Try.pinned (OpenSpec.ofChange fnExactUnionOfWrong)

/-- 'laws.FnExactPumpOf': WHATEVER THE INPUT: true; the input reads as it did. -/
def fnExactPumpOfSpec : ChangeSpec := { name := "fnExactPumpOf", fn := fun _ => fun
  | [d1, d2] => { results := [.lit (.bool true)], args := [d1, d2] }
  | _ => none }
def fnExactPumpOfRow : OpenClaim := { program := "ytiohaeckagjebaa", sum := "61ca82a861d96423fb72aa1906d4fb5fe6b851da504e5343a40eec714f7dd742", func := "loop.example/g00758/laws.FnExactPumpOf", spec := "fnExactPumpOf", unfollowed := true, recurses := true, plainKeys := false, apart := false }
def FnExactPumpOfSaid : Prop := fnExactPumpOfRow.holds Try.pinned (OpenSpec.ofChange fnExactPumpOfSpec)

/-- ITS FALSE NEIGHBOUR: 'it returns false'. Refute it at one input. -/
def fnExactPumpOfWrong : ChangeSpec := { name := "fnExactPumpOf", fn := fun _ => fun
  | [d1, d2] => { results := [.lit (.bool false)], args := [d1, d2] }
  | _ => none }
def FnExactPumpOfWrongFalsely : Prop := fnExactPumpOfRow.holds Try.pinned (OpenSpec.ofChange fnExactPumpOfWrong)

/-- 'laws.FnExactPathIn': WHATEVER THE INPUT: true; the input reads as it did. -/
def fnExactPathInSpec : ChangeSpec := { name := "fnExactPathIn", fn := fun _ => fun
  | [d1, d2] => { results := [.lit (.bool true)], args := [d1, d2] }
  | _ => none }
def fnExactPathInRow : OpenClaim := { program := "ytiohaeckagjebaa", sum := "61ca82a861d96423fb72aa1906d4fb5fe6b851da504e5343a40eec714f7dd742", func := "loop.example/g00758/laws.FnExactPathIn", spec := "fnExactPathIn", unfollowed := true, recurses := true, plainKeys := false, apart := false }
def FnExactPathInSaid : Prop := fnExactPathInRow.holds Try.pinned (OpenSpec.ofChange fnExactPathInSpec)

/-- ITS FALSE NEIGHBOUR: 'it returns false'. Refute it at one input. -/
def fnExactPathInWrong : ChangeSpec := { name := "fnExactPathIn", fn := fun _ => fun
  | [d1, d2] => { results := [.lit (.bool false)], args := [d1, d2] }
  | _ => none }
def FnExactPathInWrongFalsely : Prop := fnExactPathInRow.holds Try.pinned (OpenSpec.ofChange fnExactPathInWrong)

/-- 'laws.FnExactLeastMend': WHATEVER THE INPUT: true; the input reads as it did. -/
def fnExactLeastMendSpec : ChangeSpec := { name := "fnExactLeastMend", fn := fun _ => fun
  | [d1, d2] => { results := [.lit (.bool true)], args := [d1, d2] }
  | _ => none }
def fnExactLeastMendRow : OpenClaim := { program := "ytiohaeckagjebaa", sum := "61ca82a861d96423fb72aa1906d4fb5fe6b851da504e5343a40eec714f7dd742", func := "loop.example/g00758/laws.FnExactLeastMend", spec := "fnExactLeastMend", unfollowed := true, recurses := true, plainKeys := false, apart := false }
def FnExactLeastMendSaid : Prop := fnExactLeastMendRow.holds Try.pinned (OpenSpec.ofChange fnExactLeastMendSpec)

/-- ITS FALSE NEIGHBOUR: 'it returns false'. Refute it at one input. -/
def fnExactLeastMendWrong : ChangeSpec := { name := "fnExactLeastMend", fn := fun _ => fun
  | [d1, d2] => { results := [.lit (.bool false)], args := [d1, d2] }
  | _ => none }
def FnExactLeastMendWrongFalsely : Prop := fnExactLeastMendRow.holds Try.pinned (OpenSpec.ofChange fnExactLeastMendWrong)

/-- 'laws.FnExactIsPump': WHATEVER THE INPUT: true; the input reads as it did. -/
def fnExactIsPumpSpec : ChangeSpec := { name := "fnExactIsPump", fn := fun _ => fun
  | [d1, d2, d3, d4] => { results := [.lit (.bool true)], args := [d1, d2, d3, d4] }
  | _ => none }
def fnExactIsPumpRow : OpenClaim := { program := "ytiohaeckagjebaa", sum := "61ca82a861d96423fb72aa1906d4fb5fe6b851da504e5343a40eec714f7dd742", func := "loop.example/g00758/laws.FnExactIsPump", spec := "fnExactIsPump", unfollowed := true, recurses := true, plainKeys := false, apart := false }
def FnExactIsPumpSaid : Prop := fnExactIsPumpRow.holds Try.pinned (OpenSpec.ofChange fnExactIsPumpSpec)

/-- ITS FALSE NEIGHBOUR: 'it returns false'. Refute it at one input. -/
def fnExactIsPumpWrong : ChangeSpec := { name := "fnExactIsPump", fn := fun _ => fun
  | [d1, d2, d3, d4] => { results := [.lit (.bool false)], args := [d1, d2, d3, d4] }
  | _ => none }
def FnExactIsPumpWrongFalsely : Prop := fnExactIsPumpRow.holds Try.pinned (OpenSpec.ofChange fnExactIsPumpWrong)

/-- 'laws.FnExactCountByLong': WHATEVER THE INPUT: true; the input reads as it did. -/
def fnExactCountByLongSpec : ChangeSpec := { name := "fnExactCountByLong", fn := fun _ => fun
  | [d1, d2] => { results := [.lit (.bool true)], args := [d1, d2] }
  | _ => none }
def fnExactCountByLongRow : OpenClaim := { program := "ytiohaeckagjebaa", sum := "61ca82a861d96423fb72aa1906d4fb5fe6b851da504e5343a40eec714f7dd742", func := "loop.example/g00758/laws.FnExactCountByLong", spec := "fnExactCountByLong", unfollowed := true, recurses := true, plainKeys := false, apart := false }
def FnExactCountByLongSaid : Prop := fnExactCountByLongRow.holds Try.pinned (OpenSpec.ofChange fnExactCountByLongSpec)

/-- ITS FALSE NEIGHBOUR: 'it returns false'. Refute it at one input. -/
def fnExactCountByLongWrong : ChangeSpec := { name := "fnExactCountByLong", fn := fun _ => fun
  | [d1, d2] => { results := [.lit (.bool false)], args := [d1, d2] }
  | _ => none }
def FnExactCountByLongWrongFalsely : Prop := fnExactCountByLongRow.holds Try.pinned (OpenSpec.ofChange fnExactCountByLongWrong)

/-- 'laws.FnExactSameUpTo': WHATEVER THE INPUT: true; the input reads as it did. -/
def fnExactSameUpToSpec : ChangeSpec := { name := "fnExactSameUpTo", fn := fun _ => fun
  | [d1, d2, d3] => { results := [.lit (.bool true)], args := [d1, d2, d3] }
  | _ => none }
def fnExactSameUpToRow : OpenClaim := { program := "ytiohaeckagjebaa", sum := "61ca82a861d96423fb72aa1906d4fb5fe6b851da504e5343a40eec714f7dd742", func := "loop.example/g00758/laws.FnExactSameUpTo", spec := "fnExactSameUpTo", unfollowed := true, recurses := true, plainKeys := false, apart := false }
def FnExactSameUpToSaid : Prop := fnExactSameUpToRow.holds Try.pinned (OpenSpec.ofChange fnExactSameUpToSpec)

/-- ITS FALSE NEIGHBOUR: 'it returns false'. Refute it at one input. -/
def fnExactSameUpToWrong : ChangeSpec := { name := "fnExactSameUpTo", fn := fun _ => fun
  | [d1, d2, d3] => { results := [.lit (.bool false)], args := [d1, d2, d3] }
  | _ => none }
def FnExactSameUpToWrongFalsely : Prop := fnExactSameUpToRow.holds Try.pinned (OpenSpec.ofChange fnExactSameUpToWrong)

/-- 'laws.FnExactCostTable': WHATEVER THE INPUT: true; the input reads as it did. -/
def fnExactCostTableSpec : ChangeSpec := { name := "fnExactCostTable", fn := fun _ => fun
  | [d1, d2, d3] => { results := [.lit (.bool true)], args := [d1, d2, d3] }
  | _ => none }
def fnExactCostTableRow : OpenClaim := { program := "ytiohaeckagjebaa", sum := "61ca82a861d96423fb72aa1906d4fb5fe6b851da504e5343a40eec714f7dd742", func := "loop.example/g00758/laws.FnExactCostTable", spec := "fnExactCostTable", unfollowed := true, recurses := true, plainKeys := false, apart := false }
def FnExactCostTableSaid : Prop := fnExactCostTableRow.holds Try.pinned (OpenSpec.ofChange fnExactCostTableSpec)

/-- ITS FALSE NEIGHBOUR: 'it returns false'. Refute it at one input. -/
def fnExactCostTableWrong : ChangeSpec := { name := "fnExactCostTable", fn := fun _ => fun
  | [d1, d2, d3] => { results := [.lit (.bool false)], args := [d1, d2, d3] }
  | _ => none }
def FnExactCostTableWrongFalsely : Prop := fnExactCostTableRow.holds Try.pinned (OpenSpec.ofChange fnExactCostTableWrong)

/-- 'laws.FnExactPumpTree': WHATEVER THE INPUT: true; the input reads as it did. -/
def fnExactPumpTreeSpec : ChangeSpec := { name := "fnExactPumpTree", fn := fun _ => fun
  | [d1, d2, d3] => { results := [.lit (.bool true)], args := [d1, d2, d3] }
  | _ => none }
def fnExactPumpTreeRow : OpenClaim := { program := "ytiohaeckagjebaa", sum := "61ca82a861d96423fb72aa1906d4fb5fe6b851da504e5343a40eec714f7dd742", func := "loop.example/g00758/laws.FnExactPumpTree", spec := "fnExactPumpTree", unfollowed := true, recurses := true, plainKeys := false, apart := false }
def FnExactPumpTreeSaid : Prop := fnExactPumpTreeRow.holds Try.pinned (OpenSpec.ofChange fnExactPumpTreeSpec)

/-- ITS FALSE NEIGHBOUR: 'it returns false'. Refute it at one input. -/
def fnExactPumpTreeWrong : ChangeSpec := { name := "fnExactPumpTree", fn := fun _ => fun
  | [d1, d2, d3] => { results := [.lit (.bool false)], args := [d1, d2, d3] }
  | _ => none }
def FnExactPumpTreeWrongFalsely : Prop := fnExactPumpTreeRow.holds Try.pinned (OpenSpec.ofChange fnExactPumpTreeWrong)

/-- 'laws.FnExactCountSized': WHATEVER THE INPUT: true; the input reads as it did. -/
def fnExactCountSizedSpec : ChangeSpec := { name := "fnExactCountSized", fn := fun _ => fun
  | [d1, d2, d3] => { results := [.lit (.bool true)], args := [d1, d2, d3] }
  | _ => none }
def fnExactCountSizedRow : OpenClaim := { program := "ytiohaeckagjebaa", sum := "61ca82a861d96423fb72aa1906d4fb5fe6b851da504e5343a40eec714f7dd742", func := "loop.example/g00758/laws.FnExactCountSized", spec := "fnExactCountSized", unfollowed := true, recurses := true, plainKeys := false, apart := false }
def FnExactCountSizedSaid : Prop := fnExactCountSizedRow.holds Try.pinned (OpenSpec.ofChange fnExactCountSizedSpec)

/-- ITS FALSE NEIGHBOUR: 'it returns false'. Refute it at one input. -/
def fnExactCountSizedWrong : ChangeSpec := { name := "fnExactCountSized", fn := fun _ => fun
  | [d1, d2, d3] => { results := [.lit (.bool false)], args := [d1, d2, d3] }
  | _ => none }
def FnExactCountSizedWrongFalsely : Prop := fnExactCountSizedRow.holds Try.pinned (OpenSpec.ofChange fnExactCountSizedWrong)

/-- 'laws.FnExactChangeWord': WHATEVER THE INPUT: true; the input reads as it did. -/
def fnExactChangeWordSpec : ChangeSpec := { name := "fnExactChangeWord", fn := fun _ => fun
  | [d1, d2, d3, d4, d5] => { results := [.lit (.bool true)], args := [d1, d2, d3, d4, d5] }
  | _ => none }
def fnExactChangeWordRow : OpenClaim := { program := "ytiohaeckagjebaa", sum := "61ca82a861d96423fb72aa1906d4fb5fe6b851da504e5343a40eec714f7dd742", func := "loop.example/g00758/laws.FnExactChangeWord", spec := "fnExactChangeWord", inPlace := ["slices.overlaps[int]"], unfollowed := true, recurses := true, plainKeys := false, apart := false }
def FnExactChangeWordSaid : Prop := fnExactChangeWordRow.holds Try.pinned (OpenSpec.ofChange fnExactChangeWordSpec)

/-- ITS FALSE NEIGHBOUR: 'it returns false'. Refute it at one input. -/
def fnExactChangeWordWrong : ChangeSpec := { name := "fnExactChangeWord", fn := fun _ => fun
  | [d1, d2, d3, d4, d5] => { results := [.lit (.bool false)], args := [d1, d2, d3, d4, d5] }
  | _ => none }
def FnExactChangeWordWrongFalsely : Prop := fnExactChangeWordRow.holds Try.pinned (OpenSpec.ofChange fnExactChangeWordWrong)

/-- 'laws.FnExactMendTable': WHATEVER THE INPUT: true; the input reads as it did. -/
def fnExactMendTableSpec : ChangeSpec := { name := "fnExactMendTable", fn := fun _ => fun
  | [d1, d2] => { results := [.lit (.bool true)], args := [d1, d2] }
  | _ => none }
def fnExactMendTableRow : OpenClaim := { program := "ytiohaeckagjebaa", sum := "61ca82a861d96423fb72aa1906d4fb5fe6b851da504e5343a40eec714f7dd742", func := "loop.example/g00758/laws.FnExactMendTable", spec := "fnExactMendTable", unfollowed := true, recurses := true, plainKeys := false, apart := false }
def FnExactMendTableSaid : Prop := fnExactMendTableRow.holds Try.pinned (OpenSpec.ofChange fnExactMendTableSpec)

/-- ITS FALSE NEIGHBOUR: 'it returns false'. Refute it at one input. -/
def fnExactMendTableWrong : ChangeSpec := { name := "fnExactMendTable", fn := fun _ => fun
  | [d1, d2] => { results := [.lit (.bool false)], args := [d1, d2] }
  | _ => none }
def FnExactMendTableWrongFalsely : Prop := fnExactMendTableRow.holds Try.pinned (OpenSpec.ofChange fnExactMendTableWrong)

/-- 'laws.FnExactNearWord': WHATEVER THE INPUT: true; the input reads as it did. -/
def fnExactNearWordSpec : ChangeSpec := { name := "fnExactNearWord", fn := fun _ => fun
  | [d1, d2, d3] => { results := [.lit (.bool true)], args := [d1, d2, d3] }
  | _ => none }
def fnExactNearWordRow : OpenClaim := { program := "ytiohaeckagjebaa", sum := "61ca82a861d96423fb72aa1906d4fb5fe6b851da504e5343a40eec714f7dd742", func := "loop.example/g00758/laws.FnExactNearWord", spec := "fnExactNearWord", unfollowed := true, recurses := true, plainKeys := false, apart := false }
def FnExactNearWordSaid : Prop := fnExactNearWordRow.holds Try.pinned (OpenSpec.ofChange fnExactNearWordSpec)

/-- ITS FALSE NEIGHBOUR: 'it returns false'. Refute it at one input. -/
def fnExactNearWordWrong : ChangeSpec := { name := "fnExactNearWord", fn := fun _ => fun
  | [d1, d2, d3] => { results := [.lit (.bool false)], args := [d1, d2, d3] }
  | _ => none }
def FnExactNearWordWrongFalsely : Prop := fnExactNearWordRow.holds Try.pinned (OpenSpec.ofChange fnExactNearWordWrong)

/-- 'laws.FnExactFirstUnlike': WHATEVER THE INPUT: true; the input reads as it did. -/
def fnExactFirstUnlikeSpec : ChangeSpec := { name := "fnExactFirstUnlike", fn := fun _ => fun
  | [d1, d2, d3] => { results := [.lit (.bool true)], args := [d1, d2, d3] }
  | _ => none }
def fnExactFirstUnlikeRow : OpenClaim := { program := "ytiohaeckagjebaa", sum := "61ca82a861d96423fb72aa1906d4fb5fe6b851da504e5343a40eec714f7dd742", func := "loop.example/g00758/laws.FnExactFirstUnlike", spec := "fnExactFirstUnlike", unfollowed := true, recurses := true, plainKeys := false, apart := false }
def FnExactFirstUnlikeSaid : Prop := fnExactFirstUnlikeRow.holds Try.pinned (OpenSpec.ofChange fnExactFirstUnlikeSpec)

/-- ITS FALSE NEIGHBOUR: 'it returns false'. Refute it at one input. -/
def fnExactFirstUnlikeWrong : ChangeSpec := { name := "fnExactFirstUnlike", fn := fun _ => fun
  | [d1, d2, d3] => { results := [.lit (.bool false)], args := [d1, d2, d3] }
  | _ => none }
def FnExactFirstUnlikeWrongFalsely : Prop := fnExactFirstUnlikeRow.holds Try.pinned (OpenSpec.ofChange fnExactFirstUnlikeWrong)

/-- 'laws.FnExactBestTree': WHATEVER THE INPUT: true; the input reads as it did. -/
def fnExactBestTreeSpec : ChangeSpec := { name := "fnExactBestTree", fn := fun _ => fun
  | [d1, d2, d3] => { results := [.lit (.bool true)], args := [d1, d2, d3] }
  | _ => none }
def fnExactBestTreeRow : OpenClaim := { program := "ytiohaeckagjebaa", sum := "61ca82a861d96423fb72aa1906d4fb5fe6b851da504e5343a40eec714f7dd742", func := "loop.example/g00758/laws.FnExactBestTree", spec := "fnExactBestTree", unfollowed := true, recurses := true, plainKeys := false, apart := false }
def FnExactBestTreeSaid : Prop := fnExactBestTreeRow.holds Try.pinned (OpenSpec.ofChange fnExactBestTreeSpec)

/-- ITS FALSE NEIGHBOUR: 'it returns false'. Refute it at one input. -/
def fnExactBestTreeWrong : ChangeSpec := { name := "fnExactBestTree", fn := fun _ => fun
  | [d1, d2, d3] => { results := [.lit (.bool false)], args := [d1, d2, d3] }
  | _ => none }
def FnExactBestTreeWrongFalsely : Prop := fnExactBestTreeRow.holds Try.pinned (OpenSpec.ofChange fnExactBestTreeWrong)

/-- 'laws.FnExactTreesUpTo': WHATEVER THE INPUT: true; the input reads as it did. -/
def fnExactTreesUpToSpec : ChangeSpec := { name := "fnExactTreesUpTo", fn := fun _ => fun
  | [d1, d2, d3, d4] => { results := [.lit (.bool true)], args := [d1, d2, d3, d4] }
  | _ => none }
def fnExactTreesUpToRow : OpenClaim := { program := "ytiohaeckagjebaa", sum := "61ca82a861d96423fb72aa1906d4fb5fe6b851da504e5343a40eec714f7dd742", func := "loop.example/g00758/laws.FnExactTreesUpTo", spec := "fnExactTreesUpTo", unfollowed := true, recurses := true, plainKeys := false, apart := false }
def FnExactTreesUpToSaid : Prop := fnExactTreesUpToRow.holds Try.pinned (OpenSpec.ofChange fnExactTreesUpToSpec)

/-- ITS FALSE NEIGHBOUR: 'it returns false'. Refute it at one input. -/
def fnExactTreesUpToWrong : ChangeSpec := { name := "fnExactTreesUpTo", fn := fun _ => fun
  | [d1, d2, d3, d4] => { results := [.lit (.bool false)], args := [d1, d2, d3, d4] }
  | _ => none }
def FnExactTreesUpToWrongFalsely : Prop := fnExactTreesUpToRow.holds Try.pinned (OpenSpec.ofChange fnExactTreesUpToWrong)

/- THE SECOND FORM. 'bulk': how many values and letters a reading holds, each counted each time it is reached (what is shared counts as often as it is met; a slice's spare places count too). A statement '..UptoSaid' is the law's where the arguments, and the package variables that the reading takes, are together of bulk at most 1048576: NARROWER than '..Said'. Prove '..Said' where nothing that the law and all that it calls make is longer than what came in: it says more and counts as full. Else prove '..UptoSaid'. A law counts once. -/
mutual
def uptoBulk {H : Type} : DataW H → Nat
  | .lit (.string bytes) => bytes.length + 1
  | .lit _ => 1
  | .nil => 1
  | .ptr d => uptoBulk d + 1
  | .slice elems spare => uptoBulkAll elems + uptoBulkAll spare + 1
  | .agg parts => uptoBulkAll parts + 1
  | .iface _ d => uptoBulk d + 1
  | .map entries => uptoBulkEntries entries + 1
  | .held _ => 1
def uptoBulkAll {H : Type} : List (DataW H) → Nat
  | [] => 0
  | d :: r => uptoBulk d + uptoBulkAll r
def uptoBulkEntries {H : Type} : List (Lit × DataW H) → Nat
  | [] => 0
  | x :: r => uptoBulkEntry x + uptoBulkEntries r
def uptoBulkEntry {H : Type} : Lit × DataW H → Nat
  | (.string bytes, d) => bytes.length + uptoBulk d + 1
  | (_, d) => uptoBulk d + 1
 end
def uptoSmall : (H : Type) → List (DataW H) → Bool := fun _ ds => decide (uptoBulkAll ds ≤ 1048576)
def OpenSpec.upto (s : _root_.Go.ChangeSpec) : _root_.Go.OpenSpec := { _root_.Go.OpenSpec.ofChange s with cond := some uptoSmall }

/-- 'laws.FnExactPumpWord', WHERE WHAT IT READS IS OF BULK AT MOST 1048576: true; the input reads as it did. -/
def fnExactPumpWordUptoRow : OpenClaim := { program := "ytiohaeckagjebaa", sum := "61ca82a861d96423fb72aa1906d4fb5fe6b851da504e5343a40eec714f7dd742", func := "loop.example/g00758/laws.FnExactPumpWord", spec := "fnExactPumpWord", unfollowed := true, recurses := true, plainKeys := false, apart := false, narrowed := true }
def FnExactPumpWordUptoSaid : Prop := fnExactPumpWordUptoRow.holds Try.pinned (OpenSpec.upto fnExactPumpWordSpec)

/-- 'laws.FnExactLongEnough', WHERE WHAT IT READS IS OF BULK AT MOST 1048576: true; the input reads as it did. -/
def fnExactLongEnoughUptoRow : OpenClaim := { program := "ytiohaeckagjebaa", sum := "61ca82a861d96423fb72aa1906d4fb5fe6b851da504e5343a40eec714f7dd742", func := "loop.example/g00758/laws.FnExactLongEnough", spec := "fnExactLongEnough", unfollowed := true, recurses := true, plainKeys := false, apart := false, narrowed := true }
def FnExactLongEnoughUptoSaid : Prop := fnExactLongEnoughUptoRow.holds Try.pinned (OpenSpec.upto fnExactLongEnoughSpec)

/-- 'laws.FnExactStarOf', WHERE WHAT IT READS IS OF BULK AT MOST 1048576: true; the input reads as it did. -/
def fnExactStarOfUptoRow : OpenClaim := { program := "ytiohaeckagjebaa", sum := "61ca82a861d96423fb72aa1906d4fb5fe6b851da504e5343a40eec714f7dd742", func := "loop.example/g00758/laws.FnExactStarOf", spec := "fnExactStarOf", unfollowed := true, recurses := true, plainKeys := false, apart := false, narrowed := true }
def FnExactStarOfUptoSaid : Prop := fnExactStarOfUptoRow.holds Try.pinned (OpenSpec.upto fnExactStarOfSpec)

/-- 'laws.FnExactJoinOf', WHERE WHAT IT READS IS OF BULK AT MOST 1048576: true; the input reads as it did. -/
def fnExactJoinOfUptoRow : OpenClaim := { program := "ytiohaeckagjebaa", sum := "61ca82a861d96423fb72aa1906d4fb5fe6b851da504e5343a40eec714f7dd742", func := "loop.example/g00758/laws.FnExactJoinOf", spec := "fnExactJoinOf", unfollowed := true, recurses := true, plainKeys := false, apart := false, narrowed := true }
def FnExactJoinOfUptoSaid : Prop := fnExactJoinOfUptoRow.holds Try.pinned (OpenSpec.upto fnExactJoinOfSpec)

/-- 'laws.FnExactUnionOf', WHERE WHAT IT READS IS OF BULK AT MOST 1048576: true; the input reads as it did. -/
def fnExactUnionOfUptoRow : OpenClaim := { program := "ytiohaeckagjebaa", sum := "61ca82a861d96423fb72aa1906d4fb5fe6b851da504e5343a40eec714f7dd742", func := "loop.example/g00758/laws.FnExactUnionOf", spec := "fnExactUnionOf", unfollowed := true, recurses := true, plainKeys := false, apart := false, narrowed := true }
def FnExactUnionOfUptoSaid : Prop := fnExactUnionOfUptoRow.holds Try.pinned (OpenSpec.upto fnExactUnionOfSpec)

/-- 'laws.FnExactPumpOf', WHERE WHAT IT READS IS OF BULK AT MOST 1048576: true; the input reads as it did. -/
def fnExactPumpOfUptoRow : OpenClaim := { program := "ytiohaeckagjebaa", sum := "61ca82a861d96423fb72aa1906d4fb5fe6b851da504e5343a40eec714f7dd742", func := "loop.example/g00758/laws.FnExactPumpOf", spec := "fnExactPumpOf", unfollowed := true, recurses := true, plainKeys := false, apart := false, narrowed := true }
def FnExactPumpOfUptoSaid : Prop := fnExactPumpOfUptoRow.holds Try.pinned (OpenSpec.upto fnExactPumpOfSpec)

/-- 'laws.FnExactPathIn', WHERE WHAT IT READS IS OF BULK AT MOST 1048576: true; the input reads as it did. -/
def fnExactPathInUptoRow : OpenClaim := { program := "ytiohaeckagjebaa", sum := "61ca82a861d96423fb72aa1906d4fb5fe6b851da504e5343a40eec714f7dd742", func := "loop.example/g00758/laws.FnExactPathIn", spec := "fnExactPathIn", unfollowed := true, recurses := true, plainKeys := false, apart := false, narrowed := true }
def FnExactPathInUptoSaid : Prop := fnExactPathInUptoRow.holds Try.pinned (OpenSpec.upto fnExactPathInSpec)

/-- 'laws.FnExactLeastMend', WHERE WHAT IT READS IS OF BULK AT MOST 1048576: true; the input reads as it did. -/
def fnExactLeastMendUptoRow : OpenClaim := { program := "ytiohaeckagjebaa", sum := "61ca82a861d96423fb72aa1906d4fb5fe6b851da504e5343a40eec714f7dd742", func := "loop.example/g00758/laws.FnExactLeastMend", spec := "fnExactLeastMend", unfollowed := true, recurses := true, plainKeys := false, apart := false, narrowed := true }
def FnExactLeastMendUptoSaid : Prop := fnExactLeastMendUptoRow.holds Try.pinned (OpenSpec.upto fnExactLeastMendSpec)

/-- 'laws.FnExactIsPump', WHERE WHAT IT READS IS OF BULK AT MOST 1048576: true; the input reads as it did. -/
def fnExactIsPumpUptoRow : OpenClaim := { program := "ytiohaeckagjebaa", sum := "61ca82a861d96423fb72aa1906d4fb5fe6b851da504e5343a40eec714f7dd742", func := "loop.example/g00758/laws.FnExactIsPump", spec := "fnExactIsPump", unfollowed := true, recurses := true, plainKeys := false, apart := false, narrowed := true }
def FnExactIsPumpUptoSaid : Prop := fnExactIsPumpUptoRow.holds Try.pinned (OpenSpec.upto fnExactIsPumpSpec)

/-- 'laws.FnExactCountByLong', WHERE WHAT IT READS IS OF BULK AT MOST 1048576: true; the input reads as it did. -/
def fnExactCountByLongUptoRow : OpenClaim := { program := "ytiohaeckagjebaa", sum := "61ca82a861d96423fb72aa1906d4fb5fe6b851da504e5343a40eec714f7dd742", func := "loop.example/g00758/laws.FnExactCountByLong", spec := "fnExactCountByLong", unfollowed := true, recurses := true, plainKeys := false, apart := false, narrowed := true }
def FnExactCountByLongUptoSaid : Prop := fnExactCountByLongUptoRow.holds Try.pinned (OpenSpec.upto fnExactCountByLongSpec)

/-- 'laws.FnExactSameUpTo', WHERE WHAT IT READS IS OF BULK AT MOST 1048576: true; the input reads as it did. -/
def fnExactSameUpToUptoRow : OpenClaim := { program := "ytiohaeckagjebaa", sum := "61ca82a861d96423fb72aa1906d4fb5fe6b851da504e5343a40eec714f7dd742", func := "loop.example/g00758/laws.FnExactSameUpTo", spec := "fnExactSameUpTo", unfollowed := true, recurses := true, plainKeys := false, apart := false, narrowed := true }
def FnExactSameUpToUptoSaid : Prop := fnExactSameUpToUptoRow.holds Try.pinned (OpenSpec.upto fnExactSameUpToSpec)

/-- 'laws.FnExactCostTable', WHERE WHAT IT READS IS OF BULK AT MOST 1048576: true; the input reads as it did. -/
def fnExactCostTableUptoRow : OpenClaim := { program := "ytiohaeckagjebaa", sum := "61ca82a861d96423fb72aa1906d4fb5fe6b851da504e5343a40eec714f7dd742", func := "loop.example/g00758/laws.FnExactCostTable", spec := "fnExactCostTable", unfollowed := true, recurses := true, plainKeys := false, apart := false, narrowed := true }
def FnExactCostTableUptoSaid : Prop := fnExactCostTableUptoRow.holds Try.pinned (OpenSpec.upto fnExactCostTableSpec)

/-- 'laws.FnExactPumpTree', WHERE WHAT IT READS IS OF BULK AT MOST 1048576: true; the input reads as it did. -/
def fnExactPumpTreeUptoRow : OpenClaim := { program := "ytiohaeckagjebaa", sum := "61ca82a861d96423fb72aa1906d4fb5fe6b851da504e5343a40eec714f7dd742", func := "loop.example/g00758/laws.FnExactPumpTree", spec := "fnExactPumpTree", unfollowed := true, recurses := true, plainKeys := false, apart := false, narrowed := true }
def FnExactPumpTreeUptoSaid : Prop := fnExactPumpTreeUptoRow.holds Try.pinned (OpenSpec.upto fnExactPumpTreeSpec)

/-- 'laws.FnExactCountSized', WHERE WHAT IT READS IS OF BULK AT MOST 1048576: true; the input reads as it did. -/
def fnExactCountSizedUptoRow : OpenClaim := { program := "ytiohaeckagjebaa", sum := "61ca82a861d96423fb72aa1906d4fb5fe6b851da504e5343a40eec714f7dd742", func := "loop.example/g00758/laws.FnExactCountSized", spec := "fnExactCountSized", unfollowed := true, recurses := true, plainKeys := false, apart := false, narrowed := true }
def FnExactCountSizedUptoSaid : Prop := fnExactCountSizedUptoRow.holds Try.pinned (OpenSpec.upto fnExactCountSizedSpec)

/-- 'laws.FnExactChangeWord', WHERE WHAT IT READS IS OF BULK AT MOST 1048576: true; the input reads as it did. -/
def fnExactChangeWordUptoRow : OpenClaim := { program := "ytiohaeckagjebaa", sum := "61ca82a861d96423fb72aa1906d4fb5fe6b851da504e5343a40eec714f7dd742", func := "loop.example/g00758/laws.FnExactChangeWord", spec := "fnExactChangeWord", inPlace := ["slices.overlaps[int]"], unfollowed := true, recurses := true, plainKeys := false, apart := false, narrowed := true }
def FnExactChangeWordUptoSaid : Prop := fnExactChangeWordUptoRow.holds Try.pinned (OpenSpec.upto fnExactChangeWordSpec)

/-- 'laws.FnExactMendTable', WHERE WHAT IT READS IS OF BULK AT MOST 1048576: true; the input reads as it did. -/
def fnExactMendTableUptoRow : OpenClaim := { program := "ytiohaeckagjebaa", sum := "61ca82a861d96423fb72aa1906d4fb5fe6b851da504e5343a40eec714f7dd742", func := "loop.example/g00758/laws.FnExactMendTable", spec := "fnExactMendTable", unfollowed := true, recurses := true, plainKeys := false, apart := false, narrowed := true }
def FnExactMendTableUptoSaid : Prop := fnExactMendTableUptoRow.holds Try.pinned (OpenSpec.upto fnExactMendTableSpec)

/-- 'laws.FnExactNearWord', WHERE WHAT IT READS IS OF BULK AT MOST 1048576: true; the input reads as it did. -/
def fnExactNearWordUptoRow : OpenClaim := { program := "ytiohaeckagjebaa", sum := "61ca82a861d96423fb72aa1906d4fb5fe6b851da504e5343a40eec714f7dd742", func := "loop.example/g00758/laws.FnExactNearWord", spec := "fnExactNearWord", unfollowed := true, recurses := true, plainKeys := false, apart := false, narrowed := true }
def FnExactNearWordUptoSaid : Prop := fnExactNearWordUptoRow.holds Try.pinned (OpenSpec.upto fnExactNearWordSpec)

/-- 'laws.FnExactFirstUnlike', WHERE WHAT IT READS IS OF BULK AT MOST 1048576: true; the input reads as it did. -/
def fnExactFirstUnlikeUptoRow : OpenClaim := { program := "ytiohaeckagjebaa", sum := "61ca82a861d96423fb72aa1906d4fb5fe6b851da504e5343a40eec714f7dd742", func := "loop.example/g00758/laws.FnExactFirstUnlike", spec := "fnExactFirstUnlike", unfollowed := true, recurses := true, plainKeys := false, apart := false, narrowed := true }
def FnExactFirstUnlikeUptoSaid : Prop := fnExactFirstUnlikeUptoRow.holds Try.pinned (OpenSpec.upto fnExactFirstUnlikeSpec)

/-- 'laws.FnExactBestTree', WHERE WHAT IT READS IS OF BULK AT MOST 1048576: true; the input reads as it did. -/
def fnExactBestTreeUptoRow : OpenClaim := { program := "ytiohaeckagjebaa", sum := "61ca82a861d96423fb72aa1906d4fb5fe6b851da504e5343a40eec714f7dd742", func := "loop.example/g00758/laws.FnExactBestTree", spec := "fnExactBestTree", unfollowed := true, recurses := true, plainKeys := false, apart := false, narrowed := true }
def FnExactBestTreeUptoSaid : Prop := fnExactBestTreeUptoRow.holds Try.pinned (OpenSpec.upto fnExactBestTreeSpec)

/-- 'laws.FnExactTreesUpTo', WHERE WHAT IT READS IS OF BULK AT MOST 1048576: true; the input reads as it did. -/
def fnExactTreesUpToUptoRow : OpenClaim := { program := "ytiohaeckagjebaa", sum := "61ca82a861d96423fb72aa1906d4fb5fe6b851da504e5343a40eec714f7dd742", func := "loop.example/g00758/laws.FnExactTreesUpTo", spec := "fnExactTreesUpTo", unfollowed := true, recurses := true, plainKeys := false, apart := false, narrowed := true }
def FnExactTreesUpToUptoSaid : Prop := fnExactTreesUpToUptoRow.holds Try.pinned (OpenSpec.upto fnExactTreesUpToSpec)

end Rows
end Go.Proofs.Ytiohaeckagjebaa
