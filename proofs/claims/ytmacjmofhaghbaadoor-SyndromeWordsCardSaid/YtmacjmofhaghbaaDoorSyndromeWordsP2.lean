/-
  Parts 8 to 11 of 'Rows.SyndromeWordsSaid': the evaluator finds the law true where the tests have come out so.
-/
import Derived.Test.YtmacjmofhaghbaaDoorSyndromeWordsD
namespace Go.Proofs.YtmacjmofhaghbaaDoor.syndromeWords
theorem part8 : Sy.lawPart Tryd.prog laid (Sy.lit1s laid base lits) cuts 400 3 [25] tests 8 = true := by kernel_rfl
theorem part9 : Sy.lawPart Tryd.prog laid (Sy.lit1s laid base lits) cuts 400 3 [25] tests 9 = true := by kernel_rfl
theorem part10 : Sy.lawPart Tryd.prog laid (Sy.lit1s laid base lits) cuts 400 3 [25] tests 10 = true := by kernel_rfl
theorem part11 : Sy.lawPart Tryd.prog laid (Sy.lit1s laid base lits) cuts 400 3 [25] tests 11 = true := by kernel_rfl
end Go.Proofs.YtmacjmofhaghbaaDoor.syndromeWords
