/-
  What the parts of 'Rows.SyndromeWordsSaid' share: the listed variable's numbers, calls without arguments told once, cuts and tests.
-/
import Derived.Test.YtmacjmofhaghbaaDoorRows
import Derived.Test.YtmacjmofhaghbaaDoorSyZ
import Derived.Test.YtmacjmofhaghbaaDoorFits
namespace Go.Proofs.YtmacjmofhaghbaaDoor.syndromeWords
def listed : List Sy.Listed := [
  ⟨"math/bits.deBruijn32tab", .u8, [0, 1, 28, 2, 29, 14, 24, 3, 30, 22, 20, 15, 25, 17, 4, 8, 31, 27, 13, 23, 21, 19, 16, 7, 26, 12, 18, 6, 11, 5, 10, 9], 1, 74, 5⟩,
  ⟨"math/bits.deBruijn64tab", .u8, [0, 1, 56, 2, 57, 49, 28, 3, 61, 58, 42, 50, 38, 29, 17, 4, 62, 47, 59, 36, 45, 43, 51, 22, 53, 39, 33, 30, 24, 18, 12, 5, 63, 55, 48, 27, 60, 41, 37, 16, 46, 35, 44, 21, 52, 32, 23, 11, 54, 26, 40, 15, 34, 20, 31, 10, 25, 14, 19, 9, 13, 8, 7, 6], 2, 75, 5⟩,
  ⟨"internal/strconv.uint64pow10", .u64, [1, 10, 100, 1000, 10000, 100000, 1000000, 10000000, 100000000, 1000000000, 10000000000, 100000000000, 1000000000000, 10000000000000, 100000000000000, 1000000000000000, 10000000000000000, 100000000000000000, 1000000000000000000, 10000000000000000000], 0, 69, 23⟩]
def laid : List (Nat × List Value) := Sy.listedV listed
def lits : List Sy.Lit1 := [⟨12, (.bool (.lit 1)), 36, 13⟩]
def cuts : List (List Sy.Cut) := [[]]
def tests : List (List (Nat × Int)) := [[(4, 16)], [(4, 256)], [(4, 4096)], [(4, 65536)], [(4, 1048576)], [(4, 16777216)], [(4, 268435456)], [(4, 4294967296)], [(4, 68719476736)], [(4, 1099511627776)], [(4, 17592186044416)], [(4, 281474976710656)], [(4, 4503599627370496)], [(4, 72057594037927936)], [(4, 1152921504606846976)]]
theorem told : Sy.lit1sAre Tryd.prog laid base 400 lits = true := by kernel_rfl
end Go.Proofs.YtmacjmofhaghbaaDoor.syndromeWords
