/-
  What the parts of 'Rows.ProcNilSaid' share: the listed variable's numbers, calls without arguments told once, cuts and tests.
-/
import Derived.Test.YtgpmedfjknfapaaRows
import Derived.Test.YtgpmedfjknfapaaSyZ
namespace Go.Proofs.Ytgpmedfjknfapaa.procNil
def laid : List (Nat × List Value) := []
def lits : List Sy.Lit1 := []
def cuts : List (List Sy.Cut) := [[]]
def tests : List (List (Nat × Int)) := []
theorem told : Sy.lit1sAre Try.prog laid (Sy.memos Try.prog 400 []) 400 lits = true := by kernel_rfl
end Go.Proofs.Ytgpmedfjknfapaa.procNil
