/-
  DERIVED. GIVEN WITH THE SEED: THE CARDS: each row of YtmacjmofhaghbaaDoorRows.lean that lists a variable, with what it lists TIED to the program's text (the seventh form; the later family's looks); each row that meets fmt, with fmt's text TOLD by the authors' own Lean function (tested against real Go, not proved from fmt's source: count such statements apart). THE CARD IS WHAT COUNTS. Prove the row's statement (the work); the ties are given (YtmacjmofhaghbaaDoorTie.lean); close each card by the builder's one call (the guide's Derived/Test/ToyasCard.lean, 'card_holds'). Laid BY PROGRAM, IN A SANDBOX (cutbox-door.mjs). By AI agents, Wed Nov 11 2026. No macro, syntax, notation, axiom, sorry.
-/
import Derived.Test.YtmacjmofhaghbaaDoorRows
import GoSem.ClaimSeven
namespace Go.Proofs.YtmacjmofhaghbaaDoor
namespace Rows

/-- THE TIED CARD OF 'tenementlaw04.SyndromeWords'. -/
def syndromeWordsCard : Claim7 := { stood := { row := syndromeWordsRow, standIns := [], harness := (true, "eaeadbfe28fd00e3bc4de86f7134799d06d700204ee340ab9cb7f9ca846c4daf"), looks := false }, kinds := [], alts := [], laidByText := true, laidKinds := [.data, .data, .data], laidTests := true, laidLooks := .later }
def SyndromeWordsCardSaid : Prop := Claim7.holds Tryd.pinned (.plain (OpenSpec.ofChange syndromeWordsSpec)) syndromeWordsCard

/-- THE TIED CARD OF 'tenementlaw04.SyndromeReads'. -/
def syndromeReadsCard : Claim7 := { stood := { row := syndromeReadsRow, standIns := [], harness := (true, "eaeadbfe28fd00e3bc4de86f7134799d06d700204ee340ab9cb7f9ca846c4daf"), looks := false }, kinds := [], alts := [], laidByText := true, laidKinds := [.data, .data, .data], laidTests := true, laidLooks := .later }
def SyndromeReadsCardSaid : Prop := Claim7.holds Tryd.pinned (.plain (OpenSpec.ofChange syndromeReadsSpec)) syndromeReadsCard

/-- THE TIED CARD OF 'tenementlaw04.SyndromeBack'. -/
def syndromeBackCard : Claim7 := { stood := { row := syndromeBackRow, standIns := [], harness := (true, "eaeadbfe28fd00e3bc4de86f7134799d06d700204ee340ab9cb7f9ca846c4daf"), looks := false }, kinds := [], alts := [], laidByText := true, laidKinds := [.data, .data, .data], laidTests := true, laidLooks := .later }
def SyndromeBackCardSaid : Prop := Claim7.holds Tryd.pinned (.plain (OpenSpec.ofChange syndromeBackSpec)) syndromeBackCard

/-- THE SECOND FORM's CARD OF 'tenementlaw04.SyndromeWords'. -/
def syndromeWordsUptoCard : Claim7 := { stood := { row := syndromeWordsUptoRow, standIns := [], harness := (true, "eaeadbfe28fd00e3bc4de86f7134799d06d700204ee340ab9cb7f9ca846c4daf"), looks := false }, kinds := [], alts := [], laidByText := true, laidKinds := [.data, .data, .data], laidTests := true, laidLooks := .later }
def SyndromeWordsUptoCardSaid : Prop := Claim7.holds Tryd.pinned (.plain (OpenSpec.upto syndromeWordsSpec)) syndromeWordsUptoCard

/-- THE SECOND FORM's CARD OF 'tenementlaw04.SyndromeReads'. -/
def syndromeReadsUptoCard : Claim7 := { stood := { row := syndromeReadsUptoRow, standIns := [], harness := (true, "eaeadbfe28fd00e3bc4de86f7134799d06d700204ee340ab9cb7f9ca846c4daf"), looks := false }, kinds := [], alts := [], laidByText := true, laidKinds := [.data, .data, .data], laidTests := true, laidLooks := .later }
def SyndromeReadsUptoCardSaid : Prop := Claim7.holds Tryd.pinned (.plain (OpenSpec.upto syndromeReadsSpec)) syndromeReadsUptoCard

/-- THE SECOND FORM's CARD OF 'tenementlaw04.SyndromeBack'. -/
def syndromeBackUptoCard : Claim7 := { stood := { row := syndromeBackUptoRow, standIns := [], harness := (true, "eaeadbfe28fd00e3bc4de86f7134799d06d700204ee340ab9cb7f9ca846c4daf"), looks := false }, kinds := [], alts := [], laidByText := true, laidKinds := [.data, .data, .data], laidTests := true, laidLooks := .later }
def SyndromeBackUptoCardSaid : Prop := Claim7.holds Tryd.pinned (.plain (OpenSpec.upto syndromeBackSpec)) syndromeBackUptoCard
end Rows
end Go.Proofs.YtmacjmofhaghbaaDoor
