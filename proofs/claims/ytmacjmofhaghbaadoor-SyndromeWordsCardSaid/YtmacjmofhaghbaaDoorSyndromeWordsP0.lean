/-
  Parts 0 to 3 of 'Rows.SyndromeWordsSaid': the evaluator finds the law true where the tests have come out so.
-/
import Derived.Test.YtmacjmofhaghbaaDoorSyndromeWordsD
namespace Go.Proofs.YtmacjmofhaghbaaDoor.syndromeWords
theorem part0 : Sy.lawPart Tryd.prog laid (Sy.lit1s laid base lits) cuts 400 3 [25] tests 0 = true := by kernel_rfl
theorem part1 : Sy.lawPart Tryd.prog laid (Sy.lit1s laid base lits) cuts 400 3 [25] tests 1 = true := by kernel_rfl
theorem part2 : Sy.lawPart Tryd.prog laid (Sy.lit1s laid base lits) cuts 400 3 [25] tests 2 = true := by kernel_rfl
theorem part3 : Sy.lawPart Tryd.prog laid (Sy.lit1s laid base lits) cuts 400 3 [25] tests 3 = true := by kernel_rfl
end Go.Proofs.YtmacjmofhaghbaaDoor.syndromeWords
