/-
  Parts 4 to 7 of 'Rows.SyndromeWordsSaid': the evaluator finds the law true where the tests have come out so.
-/
import Derived.Test.YtmacjmofhaghbaaDoorSyndromeWordsD
namespace Go.Proofs.YtmacjmofhaghbaaDoor.syndromeWords
theorem part4 : Sy.lawPart Tryd.prog laid (Sy.lit1s laid base lits) cuts 400 3 [25] tests 4 = true := by kernel_rfl
theorem part5 : Sy.lawPart Tryd.prog laid (Sy.lit1s laid base lits) cuts 400 3 [25] tests 5 = true := by kernel_rfl
theorem part6 : Sy.lawPart Tryd.prog laid (Sy.lit1s laid base lits) cuts 400 3 [25] tests 6 = true := by kernel_rfl
theorem part7 : Sy.lawPart Tryd.prog laid (Sy.lit1s laid base lits) cuts 400 3 [25] tests 7 = true := by kernel_rfl
end Go.Proofs.YtmacjmofhaghbaaDoor.syndromeWords
