/-
  No cell of these rows narrows 'for every input' (looked for: loops, veiled, ifaces, maps, wideKeys, modest, calm, conditions, laid).
  DERIVED. THE GIVEN ROWS OF THIS SEAT. 12 by the template 'for every input the law returns true; each argument reads behind the call as it read before'; 0 by the template 'total and deterministic' (their statements: YtegcjkhebecgbaaTotals.lean).
  GIVEN WITH THE SEED: the statements are not yours to turn. If you find one false, say at which input.
  Laid BY PROGRAM, IN A SANDBOX (cutbox-rows.mjs): the forced cells as the released guide's own fill.sh prints them over the translation 987f22b49924bb79… (all of the seat's roots in one cut). By AI agents, Wed Nov 11 2026. No macro, syntax, notation, axiom, sorry.
-/
import Derived.Test.YtegcjkhebecgbaaChecked
import GoSem.Claim
import GoSem.ClaimJoined
import GoSem.ClaimMapViews
import Derived.JoinedTies
import Derived.KernelRfl
namespace Go.Proofs.Ytegcjkhebecgbaa
/- THE CELL 'sum', in the pinned program and in every row, IS THE sha256 OF THE DUMP (.gsa) THAT YtegcjkhebecgbaaProg.lean LOADS. Nothing in Lean hashes anything: it is a label: what it is worth is what the hold of that sum in a sandbox is worth. -/
noncomputable def Try.pinned : Pinned := { name := "ytegcjkhebecgbaa", sum := "987f22b49924bb791fcf9407411467ae2caa789fc6c5e5fefc22bbaa32435d6a", checked := Try.checked }
namespace Rows
def none {H : Type} : Left H := { results := [], args := [] }

/-- 'laws.FnDerives': WHATEVER THE INPUT: true; the input reads as it did. -/
def fnDerivesSpec : ChangeSpec := { name := "fnDerives", fn := fun _ => fun
  | [d1, d2] => { results := [.lit (.bool true)], args := [d1, d2] }
  | _ => none }
def fnDerivesRow : OpenClaim := { program := "ytegcjkhebecgbaa", sum := "987f22b49924bb791fcf9407411467ae2caa789fc6c5e5fefc22bbaa32435d6a", func := "loop.example/g00758/laws.FnDerives", spec := "fnDerives", unfollowed := true, recurses := true, plainKeys := false, apart := false }
def FnDerivesSaid : Prop := fnDerivesRow.holds Try.pinned (OpenSpec.ofChange fnDerivesSpec)

/-- ITS FALSE NEIGHBOUR: 'it returns false'. Refute it at one input. -/
def fnDerivesWrong : ChangeSpec := { name := "fnDerives", fn := fun _ => fun
  | [d1, d2] => { results := [.lit (.bool false)], args := [d1, d2] }
  | _ => none }
def FnDerivesWrongFalsely : Prop := fnDerivesRow.holds Try.pinned (OpenSpec.ofChange fnDerivesWrong)

/-- 'laws.FnFirsts': WHATEVER THE INPUT: true; the input reads as it did. -/
def fnFirstsSpec : ChangeSpec := { name := "fnFirsts", fn := fun _ => fun
  | [d1, d2] => { results := [.lit (.bool true)], args := [d1, d2] }
  | _ => none }
def fnFirstsRow : OpenClaim := { program := "ytegcjkhebecgbaa", sum := "987f22b49924bb791fcf9407411467ae2caa789fc6c5e5fefc22bbaa32435d6a", func := "loop.example/g00758/laws.FnFirsts", spec := "fnFirsts", unfollowed := true, recurses := true, plainKeys := false, apart := false }
def FnFirstsSaid : Prop := fnFirstsRow.holds Try.pinned (OpenSpec.ofChange fnFirstsSpec)

/-- ITS FALSE NEIGHBOUR: 'it returns false'. Refute it at one input. -/
def fnFirstsWrong : ChangeSpec := { name := "fnFirsts", fn := fun _ => fun
  | [d1, d2] => { results := [.lit (.bool false)], args := [d1, d2] }
  | _ => none }
def FnFirstsWrongFalsely : Prop := fnFirstsRow.holds Try.pinned (OpenSpec.ofChange fnFirstsWrong)

/-- 'laws.FnBeside': WHATEVER THE INPUT: true; the input reads as it did. -/
def fnBesideSpec : ChangeSpec := { name := "fnBeside", fn := fun _ => fun
  | [d1, d2] => { results := [.lit (.bool true)], args := [d1, d2] }
  | _ => none }
def fnBesideRow : OpenClaim := { program := "ytegcjkhebecgbaa", sum := "987f22b49924bb791fcf9407411467ae2caa789fc6c5e5fefc22bbaa32435d6a", func := "loop.example/g00758/laws.FnBeside", spec := "fnBeside", unfollowed := true, recurses := true, plainKeys := false, apart := false }
def FnBesideSaid : Prop := fnBesideRow.holds Try.pinned (OpenSpec.ofChange fnBesideSpec)

/-- ITS FALSE NEIGHBOUR: 'it returns false'. Refute it at one input. -/
def fnBesideWrong : ChangeSpec := { name := "fnBeside", fn := fun _ => fun
  | [d1, d2] => { results := [.lit (.bool false)], args := [d1, d2] }
  | _ => none }
def FnBesideWrongFalsely : Prop := fnBesideRow.holds Try.pinned (OpenSpec.ofChange fnBesideWrong)

/-- 'laws.FnRewrites': WHATEVER THE INPUT: true; the input reads as it did. -/
def fnRewritesSpec : ChangeSpec := { name := "fnRewrites", fn := fun _ => fun
  | [d1, d2] => { results := [.lit (.bool true)], args := [d1, d2] }
  | _ => none }
def fnRewritesRow : OpenClaim := { program := "ytegcjkhebecgbaa", sum := "987f22b49924bb791fcf9407411467ae2caa789fc6c5e5fefc22bbaa32435d6a", func := "loop.example/g00758/laws.FnRewrites", spec := "fnRewrites", inPlace := ["slices.overlaps[int]"], unfollowed := true, recurses := true, plainKeys := false, apart := false }
def FnRewritesSaid : Prop := fnRewritesRow.holds Try.pinned (OpenSpec.ofChange fnRewritesSpec)

/-- ITS FALSE NEIGHBOUR: 'it returns false'. Refute it at one input. -/
def fnRewritesWrong : ChangeSpec := { name := "fnRewrites", fn := fun _ => fun
  | [d1, d2] => { results := [.lit (.bool false)], args := [d1, d2] }
  | _ => none }
def FnRewritesWrongFalsely : Prop := fnRewritesRow.holds Try.pinned (OpenSpec.ofChange fnRewritesWrong)

/-- 'laws.FnFinite': WHATEVER THE INPUT: true; the input reads as it did. -/
def fnFiniteSpec : ChangeSpec := { name := "fnFinite", fn := fun _ => fun
  | [d1, d2] => { results := [.lit (.bool true)], args := [d1, d2] }
  | _ => none }
def fnFiniteRow : OpenClaim := { program := "ytegcjkhebecgbaa", sum := "987f22b49924bb791fcf9407411467ae2caa789fc6c5e5fefc22bbaa32435d6a", func := "loop.example/g00758/laws.FnFinite", spec := "fnFinite", unfollowed := true, recurses := true, plainKeys := false, apart := false }
def FnFiniteSaid : Prop := fnFiniteRow.holds Try.pinned (OpenSpec.ofChange fnFiniteSpec)

/-- ITS FALSE NEIGHBOUR: 'it returns false'. Refute it at one input. -/
def fnFiniteWrong : ChangeSpec := { name := "fnFinite", fn := fun _ => fun
  | [d1, d2] => { results := [.lit (.bool false)], args := [d1, d2] }
  | _ => none }
def FnFiniteWrongFalsely : Prop := fnFiniteRow.holds Try.pinned (OpenSpec.ofChange fnFiniteWrong)

/-- 'laws.FnUseful': WHATEVER THE INPUT: true; the input reads as it did. -/
def fnUsefulSpec : ChangeSpec := { name := "fnUseful", fn := fun _ => fun
  | [d1, d2] => { results := [.lit (.bool true)], args := [d1, d2] }
  | _ => none }
def fnUsefulRow : OpenClaim := { program := "ytegcjkhebecgbaa", sum := "987f22b49924bb791fcf9407411467ae2caa789fc6c5e5fefc22bbaa32435d6a", func := "loop.example/g00758/laws.FnUseful", spec := "fnUseful", unfollowed := true, recurses := true, plainKeys := false, apart := false }
def FnUsefulSaid : Prop := fnUsefulRow.holds Try.pinned (OpenSpec.ofChange fnUsefulSpec)

/-- ITS FALSE NEIGHBOUR: 'it returns false'. Refute it at one input. -/
def fnUsefulWrong : ChangeSpec := { name := "fnUseful", fn := fun _ => fun
  | [d1, d2] => { results := [.lit (.bool false)], args := [d1, d2] }
  | _ => none }
def FnUsefulWrongFalsely : Prop := fnUsefulRow.holds Try.pinned (OpenSpec.ofChange fnUsefulWrong)

/-- 'laws.FnUnlike': WHATEVER THE INPUT: true; the input reads as it did. -/
def fnUnlikeSpec : ChangeSpec := { name := "fnUnlike", fn := fun _ => fun
  | [d1, d2] => { results := [.lit (.bool true)], args := [d1, d2] }
  | _ => none }
def fnUnlikeRow : OpenClaim := { program := "ytegcjkhebecgbaa", sum := "987f22b49924bb791fcf9407411467ae2caa789fc6c5e5fefc22bbaa32435d6a", func := "loop.example/g00758/laws.FnUnlike", spec := "fnUnlike", unfollowed := true, recurses := true, plainKeys := false, apart := false }
def FnUnlikeSaid : Prop := fnUnlikeRow.holds Try.pinned (OpenSpec.ofChange fnUnlikeSpec)

/-- ITS FALSE NEIGHBOUR: 'it returns false'. Refute it at one input. -/
def fnUnlikeWrong : ChangeSpec := { name := "fnUnlike", fn := fun _ => fun
  | [d1, d2] => { results := [.lit (.bool false)], args := [d1, d2] }
  | _ => none }
def FnUnlikeWrongFalsely : Prop := fnUnlikeRow.holds Try.pinned (OpenSpec.ofChange fnUnlikeWrong)

/-- 'laws.FnCells': WHATEVER THE INPUT: true; the input reads as it did. -/
def fnCellsSpec : ChangeSpec := { name := "fnCells", fn := fun _ => fun
  | [d1, d2] => { results := [.lit (.bool true)], args := [d1, d2] }
  | _ => none }
def fnCellsRow : OpenClaim := { program := "ytegcjkhebecgbaa", sum := "987f22b49924bb791fcf9407411467ae2caa789fc6c5e5fefc22bbaa32435d6a", func := "loop.example/g00758/laws.FnCells", spec := "fnCells", unfollowed := true, recurses := true, plainKeys := false, apart := false }
def FnCellsSaid : Prop := fnCellsRow.holds Try.pinned (OpenSpec.ofChange fnCellsSpec)

/-- ITS FALSE NEIGHBOUR: 'it returns false'. Refute it at one input. -/
def fnCellsWrong : ChangeSpec := { name := "fnCells", fn := fun _ => fun
  | [d1, d2] => { results := [.lit (.bool false)], args := [d1, d2] }
  | _ => none }
def FnCellsWrongFalsely : Prop := fnCellsRow.holds Try.pinned (OpenSpec.ofChange fnCellsWrong)

/-- 'laws.FnMend': WHATEVER THE INPUT: true; the input reads as it did. -/
def fnMendSpec : ChangeSpec := { name := "fnMend", fn := fun _ => fun
  | [d1, d2] => { results := [.lit (.bool true)], args := [d1, d2] }
  | _ => none }
def fnMendRow : OpenClaim := { program := "ytegcjkhebecgbaa", sum := "987f22b49924bb791fcf9407411467ae2caa789fc6c5e5fefc22bbaa32435d6a", func := "loop.example/g00758/laws.FnMend", spec := "fnMend", inPlace := ["slices.overlaps[int]"], unfollowed := true, recurses := true, plainKeys := false, apart := false }
def FnMendSaid : Prop := fnMendRow.holds Try.pinned (OpenSpec.ofChange fnMendSpec)

/-- ITS FALSE NEIGHBOUR: 'it returns false'. Refute it at one input. -/
def fnMendWrong : ChangeSpec := { name := "fnMend", fn := fun _ => fun
  | [d1, d2] => { results := [.lit (.bool false)], args := [d1, d2] }
  | _ => none }
def FnMendWrongFalsely : Prop := fnMendRow.holds Try.pinned (OpenSpec.ofChange fnMendWrong)

/-- 'laws.FnPump': WHATEVER THE INPUT: true; the input reads as it did. -/
def fnPumpSpec : ChangeSpec := { name := "fnPump", fn := fun _ => fun
  | [d1, d2] => { results := [.lit (.bool true)], args := [d1, d2] }
  | _ => none }
def fnPumpRow : OpenClaim := { program := "ytegcjkhebecgbaa", sum := "987f22b49924bb791fcf9407411467ae2caa789fc6c5e5fefc22bbaa32435d6a", func := "loop.example/g00758/laws.FnPump", spec := "fnPump", unfollowed := true, recurses := true, plainKeys := false, apart := false }
def FnPumpSaid : Prop := fnPumpRow.holds Try.pinned (OpenSpec.ofChange fnPumpSpec)

/-- ITS FALSE NEIGHBOUR: 'it returns false'. Refute it at one input. -/
def fnPumpWrong : ChangeSpec := { name := "fnPump", fn := fun _ => fun
  | [d1, d2] => { results := [.lit (.bool false)], args := [d1, d2] }
  | _ => none }
def FnPumpWrongFalsely : Prop := fnPumpRow.holds Try.pinned (OpenSpec.ofChange fnPumpWrong)

/-- 'laws.FnLongEnough': WHATEVER THE INPUT: true; the input reads as it did. -/
def fnLongEnoughSpec : ChangeSpec := { name := "fnLongEnough", fn := fun _ => fun
  | [d1, d2] => { results := [.lit (.bool true)], args := [d1, d2] }
  | _ => none }
def fnLongEnoughRow : OpenClaim := { program := "ytegcjkhebecgbaa", sum := "987f22b49924bb791fcf9407411467ae2caa789fc6c5e5fefc22bbaa32435d6a", func := "loop.example/g00758/laws.FnLongEnough", spec := "fnLongEnough", unfollowed := true, recurses := true, plainKeys := false, apart := false }
def FnLongEnoughSaid : Prop := fnLongEnoughRow.holds Try.pinned (OpenSpec.ofChange fnLongEnoughSpec)

/-- ITS FALSE NEIGHBOUR: 'it returns false'. Refute it at one input. -/
def fnLongEnoughWrong : ChangeSpec := { name := "fnLongEnough", fn := fun _ => fun
  | [d1, d2] => { results := [.lit (.bool false)], args := [d1, d2] }
  | _ => none }
def FnLongEnoughWrongFalsely : Prop := fnLongEnoughRow.holds Try.pinned (OpenSpec.ofChange fnLongEnoughWrong)

/-- 'laws.FnTurned': WHATEVER THE INPUT: true; the input reads as it did. -/
def fnTurnedSpec : ChangeSpec := { name := "fnTurned", fn := fun _ => fun
  | [d1, d2] => { results := [.lit (.bool true)], args := [d1, d2] }
  | _ => none }
def fnTurnedRow : OpenClaim := { program := "ytegcjkhebecgbaa", sum := "987f22b49924bb791fcf9407411467ae2caa789fc6c5e5fefc22bbaa32435d6a", func := "loop.example/g00758/laws.FnTurned", spec := "fnTurned", unfollowed := true, recurses := true, plainKeys := false, apart := false }
def FnTurnedSaid : Prop := fnTurnedRow.holds Try.pinned (OpenSpec.ofChange fnTurnedSpec)

/-- ITS FALSE NEIGHBOUR: 'it returns false'. Refute it at one input. -/
def fnTurnedWrong : ChangeSpec := { name := "fnTurned", fn := fun _ => fun
  | [d1, d2] => { results := [.lit (.bool false)], args := [d1, d2] }
  | _ => none }
def FnTurnedWrongFalsely : Prop := fnTurnedRow.holds Try.pinned (OpenSpec.ofChange fnTurnedWrong)

/- THE SECOND FORM. 'bulk': how many values and letters a reading holds, each counted each time it is reached (what is shared counts as often as it is met; a slice's spare places count too). A statement '..UptoSaid' is the law's where the arguments, and the package variables that the reading takes, are together of bulk at most 1048576: NARROWER than '..Said'. Prove '..Said' where nothing that the law and all that it calls make is longer than what came in: it says more and counts as full. Else prove '..UptoSaid'. A law counts once. -/
mutual
def uptoBulk {H : Type} : DataW H → Nat
  | .lit (.string bytes) => bytes.length + 1
  | .lit _ => 1
  | .nil => 1
  | .ptr d => uptoBulk d + 1
  | .slice elems spare => uptoBulkAll elems + uptoBulkAll spare + 1
  | .agg parts => uptoBulkAll parts + 1
  | .iface _ d => uptoBulk d + 1
  | .map entries => uptoBulkEntries entries + 1
  | .held _ => 1
def uptoBulkAll {H : Type} : List (DataW H) → Nat
  | [] => 0
  | d :: r => uptoBulk d + uptoBulkAll r
def uptoBulkEntries {H : Type} : List (Lit × DataW H) → Nat
  | [] => 0
  | x :: r => uptoBulkEntry x + uptoBulkEntries r
def uptoBulkEntry {H : Type} : Lit × DataW H → Nat
  | (.string bytes, d) => bytes.length + uptoBulk d + 1
  | (_, d) => uptoBulk d + 1
 end
def uptoSmall : (H : Type) → List (DataW H) → Bool := fun _ ds => decide (uptoBulkAll ds ≤ 1048576)
def OpenSpec.upto (s : _root_.Go.ChangeSpec) : _root_.Go.OpenSpec := { _root_.Go.OpenSpec.ofChange s with cond := some uptoSmall }

/-- 'laws.FnDerives', WHERE WHAT IT READS IS OF BULK AT MOST 1048576: true; the input reads as it did. -/
def fnDerivesUptoRow : OpenClaim := { program := "ytegcjkhebecgbaa", sum := "987f22b49924bb791fcf9407411467ae2caa789fc6c5e5fefc22bbaa32435d6a", func := "loop.example/g00758/laws.FnDerives", spec := "fnDerives", unfollowed := true, recurses := true, plainKeys := false, apart := false, narrowed := true }
def FnDerivesUptoSaid : Prop := fnDerivesUptoRow.holds Try.pinned (OpenSpec.upto fnDerivesSpec)

/-- 'laws.FnFirsts', WHERE WHAT IT READS IS OF BULK AT MOST 1048576: true; the input reads as it did. -/
def fnFirstsUptoRow : OpenClaim := { program := "ytegcjkhebecgbaa", sum := "987f22b49924bb791fcf9407411467ae2caa789fc6c5e5fefc22bbaa32435d6a", func := "loop.example/g00758/laws.FnFirsts", spec := "fnFirsts", unfollowed := true, recurses := true, plainKeys := false, apart := false, narrowed := true }
def FnFirstsUptoSaid : Prop := fnFirstsUptoRow.holds Try.pinned (OpenSpec.upto fnFirstsSpec)

/-- 'laws.FnBeside', WHERE WHAT IT READS IS OF BULK AT MOST 1048576: true; the input reads as it did. -/
def fnBesideUptoRow : OpenClaim := { program := "ytegcjkhebecgbaa", sum := "987f22b49924bb791fcf9407411467ae2caa789fc6c5e5fefc22bbaa32435d6a", func := "loop.example/g00758/laws.FnBeside", spec := "fnBeside", unfollowed := true, recurses := true, plainKeys := false, apart := false, narrowed := true }
def FnBesideUptoSaid : Prop := fnBesideUptoRow.holds Try.pinned (OpenSpec.upto fnBesideSpec)

/-- 'laws.FnRewrites', WHERE WHAT IT READS IS OF BULK AT MOST 1048576: true; the input reads as it did. -/
def fnRewritesUptoRow : OpenClaim := { program := "ytegcjkhebecgbaa", sum := "987f22b49924bb791fcf9407411467ae2caa789fc6c5e5fefc22bbaa32435d6a", func := "loop.example/g00758/laws.FnRewrites", spec := "fnRewrites", inPlace := ["slices.overlaps[int]"], unfollowed := true, recurses := true, plainKeys := false, apart := false, narrowed := true }
def FnRewritesUptoSaid : Prop := fnRewritesUptoRow.holds Try.pinned (OpenSpec.upto fnRewritesSpec)

/-- 'laws.FnFinite', WHERE WHAT IT READS IS OF BULK AT MOST 1048576: true; the input reads as it did. -/
def fnFiniteUptoRow : OpenClaim := { program := "ytegcjkhebecgbaa", sum := "987f22b49924bb791fcf9407411467ae2caa789fc6c5e5fefc22bbaa32435d6a", func := "loop.example/g00758/laws.FnFinite", spec := "fnFinite", unfollowed := true, recurses := true, plainKeys := false, apart := false, narrowed := true }
def FnFiniteUptoSaid : Prop := fnFiniteUptoRow.holds Try.pinned (OpenSpec.upto fnFiniteSpec)

/-- 'laws.FnUseful', WHERE WHAT IT READS IS OF BULK AT MOST 1048576: true; the input reads as it did. -/
def fnUsefulUptoRow : OpenClaim := { program := "ytegcjkhebecgbaa", sum := "987f22b49924bb791fcf9407411467ae2caa789fc6c5e5fefc22bbaa32435d6a", func := "loop.example/g00758/laws.FnUseful", spec := "fnUseful", unfollowed := true, recurses := true, plainKeys := false, apart := false, narrowed := true }
def FnUsefulUptoSaid : Prop := fnUsefulUptoRow.holds Try.pinned (OpenSpec.upto fnUsefulSpec)

/-- 'laws.FnUnlike', WHERE WHAT IT READS IS OF BULK AT MOST 1048576: true; the input reads as it did. -/
def fnUnlikeUptoRow : OpenClaim := { program := "ytegcjkhebecgbaa", sum := "987f22b49924bb791fcf9407411467ae2caa789fc6c5e5fefc22bbaa32435d6a", func := "loop.example/g00758/laws.FnUnlike", spec := "fnUnlike", unfollowed := true, recurses := true, plainKeys := false, apart := false, narrowed := true }
def FnUnlikeUptoSaid : Prop := fnUnlikeUptoRow.holds Try.pinned (OpenSpec.upto fnUnlikeSpec)

/-- 'laws.FnCells', WHERE WHAT IT READS IS OF BULK AT MOST 1048576: true; the input reads as it did. -/
def fnCellsUptoRow : OpenClaim := { program := "ytegcjkhebecgbaa", sum := "987f22b49924bb791fcf9407411467ae2caa789fc6c5e5fefc22bbaa32435d6a", func := "loop.example/g00758/laws.FnCells", spec := "fnCells", unfollowed := true, recurses := true, plainKeys := false, apart := false, narrowed := true }
def FnCellsUptoSaid : Prop := fnCellsUptoRow.holds Try.pinned (OpenSpec.upto fnCellsSpec)

/-- 'laws.FnMend', WHERE WHAT IT READS IS OF BULK AT MOST 1048576: true; the input reads as it did. -/
def fnMendUptoRow : OpenClaim := { program := "ytegcjkhebecgbaa", sum := "987f22b49924bb791fcf9407411467ae2caa789fc6c5e5fefc22bbaa32435d6a", func := "loop.example/g00758/laws.FnMend", spec := "fnMend", inPlace := ["slices.overlaps[int]"], unfollowed := true, recurses := true, plainKeys := false, apart := false, narrowed := true }
def FnMendUptoSaid : Prop := fnMendUptoRow.holds Try.pinned (OpenSpec.upto fnMendSpec)

/-- 'laws.FnPump', WHERE WHAT IT READS IS OF BULK AT MOST 1048576: true; the input reads as it did. -/
def fnPumpUptoRow : OpenClaim := { program := "ytegcjkhebecgbaa", sum := "987f22b49924bb791fcf9407411467ae2caa789fc6c5e5fefc22bbaa32435d6a", func := "loop.example/g00758/laws.FnPump", spec := "fnPump", unfollowed := true, recurses := true, plainKeys := false, apart := false, narrowed := true }
def FnPumpUptoSaid : Prop := fnPumpUptoRow.holds Try.pinned (OpenSpec.upto fnPumpSpec)

/-- 'laws.FnLongEnough', WHERE WHAT IT READS IS OF BULK AT MOST 1048576: true; the input reads as it did. -/
def fnLongEnoughUptoRow : OpenClaim := { program := "ytegcjkhebecgbaa", sum := "987f22b49924bb791fcf9407411467ae2caa789fc6c5e5fefc22bbaa32435d6a", func := "loop.example/g00758/laws.FnLongEnough", spec := "fnLongEnough", unfollowed := true, recurses := true, plainKeys := false, apart := false, narrowed := true }
def FnLongEnoughUptoSaid : Prop := fnLongEnoughUptoRow.holds Try.pinned (OpenSpec.upto fnLongEnoughSpec)

/-- 'laws.FnTurned', WHERE WHAT IT READS IS OF BULK AT MOST 1048576: true; the input reads as it did. -/
def fnTurnedUptoRow : OpenClaim := { program := "ytegcjkhebecgbaa", sum := "987f22b49924bb791fcf9407411467ae2caa789fc6c5e5fefc22bbaa32435d6a", func := "loop.example/g00758/laws.FnTurned", spec := "fnTurned", unfollowed := true, recurses := true, plainKeys := false, apart := false, narrowed := true }
def FnTurnedUptoSaid : Prop := fnTurnedUptoRow.holds Try.pinned (OpenSpec.upto fnTurnedSpec)

end Rows
end Go.Proofs.Ytegcjkhebecgbaa
