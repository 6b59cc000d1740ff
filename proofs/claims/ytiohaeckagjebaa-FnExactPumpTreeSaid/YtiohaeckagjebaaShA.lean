/- What is the seat's own and small. -/
import Derived.Test.YtiohaeckagjebaaProg
import Derived.Test.YtiohaeckagjebaaSh1
namespace Go.Sh
open Go
def bodyOf (fn : Func) : Code := fn.body.getD .skip
def Join (b : (F → World → Prop) → Prop) (n : F → World → Prop) : Prop := b n
end Go.Sh
namespace Go.Proofs.Ytiohaeckagjebaa
open Go Go.Sh
theorem mixed : Try.prog.follows .mixedOrders = true := by kernel_rfl
end Go.Proofs.Ytiohaeckagjebaa
