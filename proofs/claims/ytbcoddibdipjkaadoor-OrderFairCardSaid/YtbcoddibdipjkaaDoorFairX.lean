/- interleafkeep.OrderFair: the walk, whole. -/
import Derived.Test.YtbcoddibdipjkaaDoorFairW
import Derived.Test.YtbcoddibdipjkaaDoorFairT
namespace Go.Proofs.YtbcoddibdipjkaaDoor
open Go Go.RowKit Go.Sep

theorem fair_any (w0 : World) (v : Value) (ls : List Op1) (hE : ErrT w0) (hv : ArgF ocells 4 w0 v ls) :
    Calls Tryd.prog 5 #[v] w0 fun e w' => e = .returned (.bool true) ∧ Below w0.heap.size w0 w' :=
  fair_of (fun bx bf bt tf tt es hbe w0 n => try_any bx bf bt tf tt es hbe w0 n) w0 v ls hE hv
end Go.Proofs.YtbcoddibdipjkaaDoor
