/-
  Part 0 of 'Rows.CoreStopsSaid': the evaluator finds the law true where the tests have come out so.
-/
import Derived.Test.YtbajgalogjplfaaRows
import Derived.Test.YtbajgalogjplfaaSyX
namespace Go.Proofs.Ytbajgalogjplfaa.coreStops
theorem part0 : Sy.lawPart Try.prog (Sy.memos Try.prog 400 [7, 28]) [] 400 3 [24, 26, 3, 32] [(0, 8), (0, 9), (0, 10), (0, 11), (0, 12), (0, 13)] 0 = true := by kernel_rfl
end Go.Proofs.Ytbajgalogjplfaa.coreStops
