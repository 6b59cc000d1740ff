/- How long what is told of trees can be. -/
import Derived.Test.YtiohaeckagjebaaShQ9
import Derived.Test.YtiohaeckagjebaaShLK
set_option linter.unusedVariables false
set_option linter.unusedSimpArgs false
set_option maxRecDepth 100000
namespace Go.Sh
open Go
theorem pumpOfV_len {gm : Gram} {tree : List Int} : (pumpOfV gm tree).1.length ≤ 1000000 := by
  unfold pumpOfV
  split
  · simp
  · split <;> simp [pumpR]
theorem whole_some {gm : Gram} {tree : List Int} {p : PT} (h : wholeP gm tree = some p) : ∃ ws, Whole gm tree p ws := by
  cases ha : askedT gm tree with
  | false => rw [whole_no ha] at h; cases h
  | true =>
    obtain ⟨q, ws, hW⟩ := asked_whole.1 ha
    rw [hW.eq] at h
    obtain rfl := Option.some.inj h
    exact ⟨ws, hW⟩
theorem total_rowsP (ps : List PT) : total (rowsP ps) = 4 * ps.length := by
  induction ps with
  | nil => rfl
  | cons p ps ih =>
    have : total (rowsP (p :: ps)) = p.row.length + total (rowsP ps) := by simp [total, rowsP]
    rw [this, ih]
    simp [PT.row]
    omega
theorem pathInV_len {gm : Gram} {tree : List Int} : total (pathInV gm tree).1 ≤ 1000000 := by
  unfold pathInV
  split
  · simp [total]
  · rename_i p hp
    obtain ⟨ws, hW⟩ := whole_some hp
    have := hW.len
    have := hW.le
    rw [total_rowsP]
    omega
theorem pumpTreeV_len {gm : Gram} {tree : List Int} {m : Int} : (pumpTreeV gm tree m).1.length ≤ 1000000 := by
  unfold pumpTreeV
  split
  · simp
  · split
    · split
      · simp
      · split
        · simp; omega
        · simp
    · simp
end Go.Sh
