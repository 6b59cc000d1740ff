/-
  No cell of these rows narrows 'for every input' (looked for: loops, veiled, ifaces, maps, wideKeys, modest, calm, conditions, laid).
  DERIVED. THE GIVEN ROWS OF THIS SEAT. 4 by the template 'for every input the law returns true; each argument reads behind the call as it read before'; 0 by the template 'total and deterministic' (their statements: YteabbgaffgpegaaTotals.lean).
  GIVEN WITH THE SEED: the statements are not yours to turn. If you find one false, say at which input.
  Laid BY PROGRAM, IN A SANDBOX (cutbox-rows.mjs): the forced cells as the released guide's own fill.sh prints them over the translation 3205938266455e26… (all of the seat's roots in one cut). By AI agents, Wed Nov 11 2026. No macro, syntax, notation, axiom, sorry.
-/
import Derived.Test.YteabbgaffgpegaaChecked
import GoSem.Claim
import GoSem.ClaimJoined
import GoSem.ClaimMapViews
import Derived.JoinedTies
import Derived.KernelRfl
namespace Go.Proofs.Yteabbgaffgpegaa
/- THE CELL 'sum', in the pinned program and in every row, IS THE sha256 OF THE DUMP (.gsa) THAT YteabbgaffgpegaaProg.lean LOADS. Nothing in Lean hashes anything: it is a label: what it is worth is what the hold of that sum in a sandbox is worth. -/
noncomputable def Try.pinned : Pinned := { name := "yteabbgaffgpegaa", sum := "3205938266455e262cefe3fedd4253da7406503bdd72e46ee8b7eb58c483f12d", checked := Try.checked }
namespace Rows
def none {H : Type} : Left H := { results := [], args := [] }

/-- 'laws.FnFirsts': WHATEVER THE INPUT: true; the input reads as it did. -/
def fnFirstsSpec : ChangeSpec := { name := "fnFirsts", fn := fun _ => fun
  | [d1, d2] => { results := [.lit (.bool true)], args := [d1, d2] }
  | _ => none }
def fnFirstsRow : OpenClaim := { program := "yteabbgaffgpegaa", sum := "3205938266455e262cefe3fedd4253da7406503bdd72e46ee8b7eb58c483f12d", func := "loop.example/g00758/laws.FnFirsts", spec := "fnFirsts", unfollowed := true, recurses := true, apart := false }
def FnFirstsSaid : Prop := fnFirstsRow.holds Try.pinned (OpenSpec.ofChange fnFirstsSpec)

/-- ITS FALSE NEIGHBOUR: 'it returns false'. Refute it at one input. -/
def fnFirstsWrong : ChangeSpec := { name := "fnFirsts", fn := fun _ => fun
  | [d1, d2] => { results := [.lit (.bool false)], args := [d1, d2] }
  | _ => none }
def FnFirstsWrongFalsely : Prop := fnFirstsRow.holds Try.pinned (OpenSpec.ofChange fnFirstsWrong)

/-- 'laws.FnRewrites': WHATEVER THE INPUT: true; the input reads as it did. -/
def fnRewritesSpec : ChangeSpec := { name := "fnRewrites", fn := fun _ => fun
  | [d1, d2] => { results := [.lit (.bool true)], args := [d1, d2] }
  | _ => none }
def fnRewritesRow : OpenClaim := { program := "yteabbgaffgpegaa", sum := "3205938266455e262cefe3fedd4253da7406503bdd72e46ee8b7eb58c483f12d", func := "loop.example/g00758/laws.FnRewrites", spec := "fnRewrites", inPlace := ["slices.overlaps[int]"], unfollowed := true, recurses := true, apart := false }
def FnRewritesSaid : Prop := fnRewritesRow.holds Try.pinned (OpenSpec.ofChange fnRewritesSpec)

/-- ITS FALSE NEIGHBOUR: 'it returns false'. Refute it at one input. -/
def fnRewritesWrong : ChangeSpec := { name := "fnRewrites", fn := fun _ => fun
  | [d1, d2] => { results := [.lit (.bool false)], args := [d1, d2] }
  | _ => none }
def FnRewritesWrongFalsely : Prop := fnRewritesRow.holds Try.pinned (OpenSpec.ofChange fnRewritesWrong)

/-- 'laws.FnCells': WHATEVER THE INPUT: true; the input reads as it did. -/
def fnCellsSpec : ChangeSpec := { name := "fnCells", fn := fun _ => fun
  | [d1, d2] => { results := [.lit (.bool true)], args := [d1, d2] }
  | _ => none }
def fnCellsRow : OpenClaim := { program := "yteabbgaffgpegaa", sum := "3205938266455e262cefe3fedd4253da7406503bdd72e46ee8b7eb58c483f12d", func := "loop.example/g00758/laws.FnCells", spec := "fnCells", unfollowed := true, recurses := true, apart := false }
def FnCellsSaid : Prop := fnCellsRow.holds Try.pinned (OpenSpec.ofChange fnCellsSpec)

/-- ITS FALSE NEIGHBOUR: 'it returns false'. Refute it at one input. -/
def fnCellsWrong : ChangeSpec := { name := "fnCells", fn := fun _ => fun
  | [d1, d2] => { results := [.lit (.bool false)], args := [d1, d2] }
  | _ => none }
def FnCellsWrongFalsely : Prop := fnCellsRow.holds Try.pinned (OpenSpec.ofChange fnCellsWrong)

/-- 'laws.FnTreeText': WHATEVER THE INPUT: true; the input reads as it did. -/
def fnTreeTextSpec : ChangeSpec := { name := "fnTreeText", fn := fun _ => fun
  | [d1, d2] => { results := [.lit (.bool true)], args := [d1, d2] }
  | _ => none }
def fnTreeTextRow : OpenClaim := { program := "yteabbgaffgpegaa", sum := "3205938266455e262cefe3fedd4253da7406503bdd72e46ee8b7eb58c483f12d", func := "loop.example/g00758/laws.FnTreeText", spec := "fnTreeText", inPlace := ["internal/bytealg.IndexByteString"], unfollowed := true, recurses := true, apart := false }
def FnTreeTextSaid : Prop := fnTreeTextRow.holds Try.pinned (OpenSpec.ofChange fnTreeTextSpec)

/-- ITS FALSE NEIGHBOUR: 'it returns false'. Refute it at one input. -/
def fnTreeTextWrong : ChangeSpec := { name := "fnTreeText", fn := fun _ => fun
  | [d1, d2] => { results := [.lit (.bool false)], args := [d1, d2] }
  | _ => none }
def FnTreeTextWrongFalsely : Prop := fnTreeTextRow.holds Try.pinned (OpenSpec.ofChange fnTreeTextWrong)

/- THE SECOND FORM. 'bulk': how many values and letters a reading holds, each counted each time it is reached (what is shared counts as often as it is met; a slice's spare places count too). A statement '..UptoSaid' is the law's where the arguments, and the package variables that the reading takes, are together of bulk at most 1048576: NARROWER than '..Said'. Prove '..Said' where nothing that the law and all that it calls make is longer than what came in: it says more and counts as full. Else prove '..UptoSaid'. A law counts once. -/
mutual
def uptoBulk {H : Type} : DataW H → Nat
  | .lit (.string bytes) => bytes.length + 1
  | .lit _ => 1
  | .nil => 1
  | .ptr d => uptoBulk d + 1
  | .slice elems spare => uptoBulkAll elems + uptoBulkAll spare + 1
  | .agg parts => uptoBulkAll parts + 1
  | .iface _ d => uptoBulk d + 1
  | .map entries => uptoBulkEntries entries + 1
  | .held _ => 1
def uptoBulkAll {H : Type} : List (DataW H) → Nat
  | [] => 0
  | d :: r => uptoBulk d + uptoBulkAll r
def uptoBulkEntries {H : Type} : List (Lit × DataW H) → Nat
  | [] => 0
  | x :: r => uptoBulkEntry x + uptoBulkEntries r
def uptoBulkEntry {H : Type} : Lit × DataW H → Nat
  | (.string bytes, d) => bytes.length + uptoBulk d + 1
  | (_, d) => uptoBulk d + 1
 end
def uptoSmall : (H : Type) → List (DataW H) → Bool := fun _ ds => decide (uptoBulkAll ds ≤ 1048576)
def OpenSpec.upto (s : _root_.Go.ChangeSpec) : _root_.Go.OpenSpec := { _root_.Go.OpenSpec.ofChange s with cond := some uptoSmall }

/-- 'laws.FnFirsts', WHERE WHAT IT READS IS OF BULK AT MOST 1048576: true; the input reads as it did. -/
def fnFirstsUptoRow : OpenClaim := { program := "yteabbgaffgpegaa", sum := "3205938266455e262cefe3fedd4253da7406503bdd72e46ee8b7eb58c483f12d", func := "loop.example/g00758/laws.FnFirsts", spec := "fnFirsts", unfollowed := true, recurses := true, apart := false, narrowed := true }
def FnFirstsUptoSaid : Prop := fnFirstsUptoRow.holds Try.pinned (OpenSpec.upto fnFirstsSpec)

/-- 'laws.FnRewrites', WHERE WHAT IT READS IS OF BULK AT MOST 1048576: true; the input reads as it did. -/
def fnRewritesUptoRow : OpenClaim := { program := "yteabbgaffgpegaa", sum := "3205938266455e262cefe3fedd4253da7406503bdd72e46ee8b7eb58c483f12d", func := "loop.example/g00758/laws.FnRewrites", spec := "fnRewrites", inPlace := ["slices.overlaps[int]"], unfollowed := true, recurses := true, apart := false, narrowed := true }
def FnRewritesUptoSaid : Prop := fnRewritesUptoRow.holds Try.pinned (OpenSpec.upto fnRewritesSpec)

/-- 'laws.FnCells', WHERE WHAT IT READS IS OF BULK AT MOST 1048576: true; the input reads as it did. -/
def fnCellsUptoRow : OpenClaim := { program := "yteabbgaffgpegaa", sum := "3205938266455e262cefe3fedd4253da7406503bdd72e46ee8b7eb58c483f12d", func := "loop.example/g00758/laws.FnCells", spec := "fnCells", unfollowed := true, recurses := true, apart := false, narrowed := true }
def FnCellsUptoSaid : Prop := fnCellsUptoRow.holds Try.pinned (OpenSpec.upto fnCellsSpec)

/-- 'laws.FnTreeText', WHERE WHAT IT READS IS OF BULK AT MOST 1048576: true; the input reads as it did. -/
def fnTreeTextUptoRow : OpenClaim := { program := "yteabbgaffgpegaa", sum := "3205938266455e262cefe3fedd4253da7406503bdd72e46ee8b7eb58c483f12d", func := "loop.example/g00758/laws.FnTreeText", spec := "fnTreeText", inPlace := ["internal/bytealg.IndexByteString"], unfollowed := true, recurses := true, apart := false, narrowed := true }
def FnTreeTextUptoSaid : Prop := fnTreeTextUptoRow.holds Try.pinned (OpenSpec.upto fnTreeTextSpec)

end Rows
end Go.Proofs.Yteabbgaffgpegaa
