/-
  What the parts of 'Rows.FramesNilSaid' share: the listed variable's numbers, calls without arguments told once, cuts and tests.
-/
import Derived.Test.YtdhligmccijpdaaDoorRows
import Derived.Test.YtdhligmccijpdaaDoorSyY
namespace Go.Proofs.YtdhligmccijpdaaDoor.framesNil
def tab : List Nat := [0, 1, 56, 2, 57, 49, 28, 3, 61, 58, 42, 50, 38, 29, 17, 4, 62, 47, 59, 36, 45, 43, 51, 22, 53, 39, 33, 30, 24, 18, 12, 5, 63, 55, 48, 27, 60, 41, 37, 16, 46, 35, 44, 21, 52, 32, 23, 11, 54, 26, 40, 15, 34, 20, 31, 10, 25, 14, 19, 9, 13, 8, 7, 6]
def laid : List (Nat × List Value) := [(0, Sy.bytesV tab)]
def lits : List Sy.Lit1 := []
def cuts : List (List Sy.Cut) := [[]]
def tests : List (List (Nat × Int)) := []
theorem told : Sy.lit1sAre Tryd.prog laid (Sy.memos Tryd.prog 400 []) 400 lits = true := by kernel_rfl
end Go.Proofs.YtdhligmccijpdaaDoor.framesNil
