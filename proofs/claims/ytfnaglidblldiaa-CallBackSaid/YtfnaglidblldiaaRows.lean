/-
  No cell of these rows narrows 'for every input' (looked for: loops, veiled, ifaces, maps, wideKeys, modest, calm, conditions, laid).
  DERIVED. THE GIVEN ROWS OF THIS SEAT. 4 by the template 'for every input the law returns true; each argument reads behind the call as it read before'; 0 by the template 'total and deterministic' (their statements: YtfnaglidblldiaaTotals.lean).
  GIVEN WITH THE SEED: the statements are not yours to turn. If you find one false, say at which input.
  Laid BY PROGRAM, IN A SANDBOX (cutbox-rows.mjs): the forced cells as the released guide's own fill.sh prints them over the translation 16ec8383d3ed1747… (all of the seat's roots in one cut). By AI agents, Wed Nov 11 2026. No macro, syntax, notation, axiom, sorry.
-/
import Derived.Test.YtfnaglidblldiaaChecked
import GoSem.Claim
import GoSem.ClaimJoined
import GoSem.ClaimMapViews
import Derived.JoinedTies
import Derived.KernelRfl
namespace Go.Proofs.Ytfnaglidblldiaa
/- THE CELL 'sum', in the pinned program and in every row, IS THE sha256 OF THE DUMP (.gsa) THAT YtfnaglidblldiaaProg.lean LOADS. Nothing in Lean hashes anything: it is a label: what it is worth is what the hold of that sum in a sandbox is worth. -/
noncomputable def Try.pinned : Pinned := { name := "ytfnaglidblldiaa", sum := "16ec8383d3ed1747985b0a4eac7547d37c334fb84ddc2cc8a50e018e816efa31", checked := Try.checked }
namespace Rows
def none {H : Type} : Left H := { results := [], args := [] }

/-- 'tenementlaw21.CallLoose': WHATEVER THE INPUT: true; the input reads as it did. -/
def callLooseSpec : ChangeSpec := { name := "callLoose", fn := fun _ => fun
  | [d1, d2] => { results := [.lit (.bool true)], args := [d1, d2] }
  | _ => none }
def callLooseRow : OpenClaim := { program := "ytfnaglidblldiaa", sum := "16ec8383d3ed1747985b0a4eac7547d37c334fb84ddc2cc8a50e018e816efa31", func := "tenement/tenementlaw21.CallLoose", spec := "callLoose", unfollowed := true, recurses := true, apart := false }
def CallLooseSaid : Prop := callLooseRow.holds Try.pinned (OpenSpec.ofChange callLooseSpec)

/-- ITS FALSE NEIGHBOUR: 'it returns false'. Refute it at one input. -/
def callLooseWrong : ChangeSpec := { name := "callLoose", fn := fun _ => fun
  | [d1, d2] => { results := [.lit (.bool false)], args := [d1, d2] }
  | _ => none }
def CallLooseWrongFalsely : Prop := callLooseRow.holds Try.pinned (OpenSpec.ofChange callLooseWrong)

/-- 'tenementlaw21.CallResults': WHATEVER THE INPUT: true; the input reads as it did. -/
def callResultsSpec : ChangeSpec := { name := "callResults", fn := fun _ => fun
  | [d1, d2, d3] => { results := [.lit (.bool true)], args := [d1, d2, d3] }
  | _ => none }
def callResultsRow : OpenClaim := { program := "ytfnaglidblldiaa", sum := "16ec8383d3ed1747985b0a4eac7547d37c334fb84ddc2cc8a50e018e816efa31", func := "tenement/tenementlaw21.CallResults", spec := "callResults", unfollowed := true, recurses := true, apart := false }
def CallResultsSaid : Prop := callResultsRow.holds Try.pinned (OpenSpec.ofChange callResultsSpec)

/-- ITS FALSE NEIGHBOUR: 'it returns false'. Refute it at one input. -/
def callResultsWrong : ChangeSpec := { name := "callResults", fn := fun _ => fun
  | [d1, d2, d3] => { results := [.lit (.bool false)], args := [d1, d2, d3] }
  | _ => none }
def CallResultsWrongFalsely : Prop := callResultsRow.holds Try.pinned (OpenSpec.ofChange callResultsWrong)

/-- 'tenementlaw21.CallReads': WHATEVER THE INPUT: true; the input reads as it did. -/
def callReadsSpec : ChangeSpec := { name := "callReads", fn := fun _ => fun
  | [d1, d2] => { results := [.lit (.bool true)], args := [d1, d2] }
  | _ => none }
def callReadsRow : OpenClaim := { program := "ytfnaglidblldiaa", sum := "16ec8383d3ed1747985b0a4eac7547d37c334fb84ddc2cc8a50e018e816efa31", func := "tenement/tenementlaw21.CallReads", spec := "callReads", unfollowed := true, recurses := true, apart := false }
def CallReadsSaid : Prop := callReadsRow.holds Try.pinned (OpenSpec.ofChange callReadsSpec)

/-- ITS FALSE NEIGHBOUR: 'it returns false'. Refute it at one input. -/
def callReadsWrong : ChangeSpec := { name := "callReads", fn := fun _ => fun
  | [d1, d2] => { results := [.lit (.bool false)], args := [d1, d2] }
  | _ => none }
def CallReadsWrongFalsely : Prop := callReadsRow.holds Try.pinned (OpenSpec.ofChange callReadsWrong)

/-- 'tenementlaw21.CallBack': WHATEVER THE INPUT: true; the input reads as it did. -/
def callBackSpec : ChangeSpec := { name := "callBack", fn := fun _ => fun
  | [d1, d2, d3] => { results := [.lit (.bool true)], args := [d1, d2, d3] }
  | _ => none }
def callBackRow : OpenClaim := { program := "ytfnaglidblldiaa", sum := "16ec8383d3ed1747985b0a4eac7547d37c334fb84ddc2cc8a50e018e816efa31", func := "tenement/tenementlaw21.CallBack", spec := "callBack", unfollowed := true, recurses := true, apart := false }
def CallBackSaid : Prop := callBackRow.holds Try.pinned (OpenSpec.ofChange callBackSpec)

/-- ITS FALSE NEIGHBOUR: 'it returns false'. Refute it at one input. -/
def callBackWrong : ChangeSpec := { name := "callBack", fn := fun _ => fun
  | [d1, d2, d3] => { results := [.lit (.bool false)], args := [d1, d2, d3] }
  | _ => none }
def CallBackWrongFalsely : Prop := callBackRow.holds Try.pinned (OpenSpec.ofChange callBackWrong)

/- THE SECOND FORM. 'bulk': how many values and letters a reading holds, each counted each time it is reached (what is shared counts as often as it is met; a slice's spare places count too). A statement '..UptoSaid' is the law's where the arguments, and the package variables that the reading takes, are together of bulk at most 1048576: NARROWER than '..Said'. Prove '..Said' where nothing that the law and all that it calls make is longer than what came in: it says more and counts as full. Else prove '..UptoSaid'. A law counts once. -/
mutual
def uptoBulk {H : Type} : DataW H → Nat
  | .lit (.string bytes) => bytes.length + 1
  | .lit _ => 1
  | .nil => 1
  | .ptr d => uptoBulk d + 1
  | .slice elems spare => uptoBulkAll elems + uptoBulkAll spare + 1
  | .agg parts => uptoBulkAll parts + 1
  | .iface _ d => uptoBulk d + 1
  | .map entries => uptoBulkEntries entries + 1
  | .held _ => 1
def uptoBulkAll {H : Type} : List (DataW H) → Nat
  | [] => 0
  | d :: r => uptoBulk d + uptoBulkAll r
def uptoBulkEntries {H : Type} : List (Lit × DataW H) → Nat
  | [] => 0
  | x :: r => uptoBulkEntry x + uptoBulkEntries r
def uptoBulkEntry {H : Type} : Lit × DataW H → Nat
  | (.string bytes, d) => bytes.length + uptoBulk d + 1
  | (_, d) => uptoBulk d + 1
 end
def uptoSmall : (H : Type) → List (DataW H) → Bool := fun _ ds => decide (uptoBulkAll ds ≤ 1048576)
def OpenSpec.upto (s : _root_.Go.ChangeSpec) : _root_.Go.OpenSpec := { _root_.Go.OpenSpec.ofChange s with cond := some uptoSmall }

/-- 'tenementlaw21.CallLoose', WHERE WHAT IT READS IS OF BULK AT MOST 1048576: true; the input reads as it did. -/
def callLooseUptoRow : OpenClaim := { program := "ytfnaglidblldiaa", sum := "16ec8383d3ed1747985b0a4eac7547d37c334fb84ddc2cc8a50e018e816efa31", func := "tenement/tenementlaw21.CallLoose", spec := "callLoose", unfollowed := true, recurses := true, apart := false, narrowed := true }
def CallLooseUptoSaid : Prop := callLooseUptoRow.holds Try.pinned (OpenSpec.upto callLooseSpec)

/-- 'tenementlaw21.CallResults', WHERE WHAT IT READS IS OF BULK AT MOST 1048576: true; the input reads as it did. -/
def callResultsUptoRow : OpenClaim := { program := "ytfnaglidblldiaa", sum := "16ec8383d3ed1747985b0a4eac7547d37c334fb84ddc2cc8a50e018e816efa31", func := "tenement/tenementlaw21.CallResults", spec := "callResults", unfollowed := true, recurses := true, apart := false, narrowed := true }
def CallResultsUptoSaid : Prop := callResultsUptoRow.holds Try.pinned (OpenSpec.upto callResultsSpec)

/-- 'tenementlaw21.CallReads', WHERE WHAT IT READS IS OF BULK AT MOST 1048576: true; the input reads as it did. -/
def callReadsUptoRow : OpenClaim := { program := "ytfnaglidblldiaa", sum := "16ec8383d3ed1747985b0a4eac7547d37c334fb84ddc2cc8a50e018e816efa31", func := "tenement/tenementlaw21.CallReads", spec := "callReads", unfollowed := true, recurses := true, apart := false, narrowed := true }
def CallReadsUptoSaid : Prop := callReadsUptoRow.holds Try.pinned (OpenSpec.upto callReadsSpec)

/-- 'tenementlaw21.CallBack', WHERE WHAT IT READS IS OF BULK AT MOST 1048576: true; the input reads as it did. -/
def callBackUptoRow : OpenClaim := { program := "ytfnaglidblldiaa", sum := "16ec8383d3ed1747985b0a4eac7547d37c334fb84ddc2cc8a50e018e816efa31", func := "tenement/tenementlaw21.CallBack", spec := "callBack", unfollowed := true, recurses := true, apart := false, narrowed := true }
def CallBackUptoSaid : Prop := callBackUptoRow.holds Try.pinned (OpenSpec.upto callBackSpec)

end Rows
end Go.Proofs.Ytfnaglidblldiaa
