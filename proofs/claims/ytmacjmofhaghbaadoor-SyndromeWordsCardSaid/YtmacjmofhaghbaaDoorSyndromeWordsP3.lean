/-
  Parts 12 to 15 of 'Rows.SyndromeWordsSaid': the evaluator finds the law true where the tests have come out so.
-/
import Derived.Test.YtmacjmofhaghbaaDoorSyndromeWordsD
namespace Go.Proofs.YtmacjmofhaghbaaDoor.syndromeWords
theorem part12 : Sy.lawPart Tryd.prog laid (Sy.lit1s laid base lits) cuts 400 3 [25] tests 12 = true := by kernel_rfl
theorem part13 : Sy.lawPart Tryd.prog laid (Sy.lit1s laid base lits) cuts 400 3 [25] tests 13 = true := by kernel_rfl
theorem part14 : Sy.lawPart Tryd.prog laid (Sy.lit1s laid base lits) cuts 400 3 [25] tests 14 = true := by kernel_rfl
theorem part15 : Sy.lawPart Tryd.prog laid (Sy.lit1s laid base lits) cuts 400 3 [25] tests 15 = true := by kernel_rfl
end Go.Proofs.YtmacjmofhaghbaaDoor.syndromeWords
