/-
  Parts 0 to 0 of 'Rows.FramesNilSaid': the evaluator finds the law true where the tests have come out so.
-/
import Derived.Test.YtdhligmccijpdaaDoorFramesNilD
namespace Go.Proofs.YtdhligmccijpdaaDoor.framesNil
theorem part0 : Sy.lawPart Tryd.prog laid (Sy.lit1s laid (Sy.memos Tryd.prog 400 []) lits) cuts 400 5 [3] tests 0 = true := by kernel_rfl
end Go.Proofs.YtdhligmccijpdaaDoor.framesNil
