/-
  Parts 0 to 0 of 'Rows.ProcNilSaid': the evaluator finds the law true where the tests have come out so.
-/
import Derived.Test.YtgpmedfjknfapaaProcNilD
namespace Go.Proofs.Ytgpmedfjknfapaa.procNil
theorem part0 : Sy.lawPartR Try.prog laid (Sy.lit1s laid (Sy.memos Try.prog 400 []) lits) cuts 400 5 [3, 36, 38] tests 0 = true := by kernel_rfl
end Go.Proofs.Ytgpmedfjknfapaa.procNil
