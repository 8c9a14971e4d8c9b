/-
  DERIVED. GIVEN WITH THE SEED: THE CARDS: each row of YtkfiafclddnaoaaDoorRows.lean that lists a variable, with what it lists TIED to the program's text (the seventh form; the later family's looks); each row that meets fmt, with fmt's text TOLD by the authors' own Lean function (tested against real Go, not proved from fmt's source: count such statements apart). THE CARD IS WHAT COUNTS. Prove the row's statement (the work); the ties are given (YtkfiafclddnaoaaDoorTie.lean); close each card by the builder's one call (the guide's Derived/Test/ToyasCard.lean, 'card_holds'). Laid BY PROGRAM, IN A SANDBOX (cutbox-door.mjs). By AI agents, Wed Nov 11 2026. No macro, syntax, notation, axiom, sorry.
-/
import Derived.Test.YtkfiafclddnaoaaDoorRows
import GoSem.ClaimSeven
namespace Go.Proofs.YtkfiafclddnaoaaDoor
namespace Rows

/-- THE TIED CARD OF 'gatepostlaw06.FramingChunks'. -/
def framingChunksCard : Claim7 := { stood := { row := framingChunksRow, standIns := [], harness := (true, "99e32f3b98bcdfd90a0088d8f048446b56791a5b8b6e49234399558e6d6bf137"), looks := true }, kinds := [], alts := [], laidByText := true, laidKinds := [.data, .data, .data], laidTests := true, laidLooks := .later }
def FramingChunksCardSaid : Prop := Claim7.holds Tryd.pinned (.plain (OpenSpec.ofChange framingChunksSpec)) framingChunksCard

/-- THE TIED CARD OF 'gatepostlaw06.FramingSame'. -/
def framingSameCard : Claim7 := { stood := { row := framingSameRow, standIns := [], harness := (true, "99e32f3b98bcdfd90a0088d8f048446b56791a5b8b6e49234399558e6d6bf137"), looks := true }, kinds := [], alts := [], laidByText := true, laidKinds := [.data, .pinned], laidTests := true, laidLooks := .later }
def FramingSameCardSaid : Prop := Claim7.holds Tryd.pinned (.plain (OpenSpec.ofChange framingSameSpec)) framingSameCard

/-- THE TIED CARD OF 'gatepostlaw06.FramingOf'. -/
def framingOfCard : Claim7 := { stood := { row := framingOfRow, standIns := [], harness := (true, "99e32f3b98bcdfd90a0088d8f048446b56791a5b8b6e49234399558e6d6bf137"), looks := true }, kinds := [], alts := [], laidByText := true, laidKinds := [.data, .pinned], laidTests := true, laidLooks := .later }
def FramingOfCardSaid : Prop := Claim7.holds Tryd.pinned (.plain (OpenSpec.ofChange framingOfSpec)) framingOfCard

/-- THE TIED CARD OF 'gatepostlaw06.FramingCuts'. -/
def framingCutsCard : Claim7 := { stood := { row := framingCutsRow, standIns := [], harness := (true, "99e32f3b98bcdfd90a0088d8f048446b56791a5b8b6e49234399558e6d6bf137"), looks := true }, kinds := [], alts := [], laidByText := true, laidKinds := [.data, .data, .data, .data, .sentinel, .sentinel, .pinned], laidTests := true, laidLooks := .later }
def FramingCutsCardSaid : Prop := Claim7.holds Tryd.pinned (.plain (OpenSpec.ofChange framingCutsSpec)) framingCutsCard

/-- THE TIED CARD OF 'gatepostlaw06.FramingReads'. -/
def framingReadsCard : Claim7 := { stood := { row := framingReadsRow, standIns := [], harness := (true, "99e32f3b98bcdfd90a0088d8f048446b56791a5b8b6e49234399558e6d6bf137"), looks := true }, kinds := [], alts := [], laidByText := true, laidKinds := [.data, .data, .data, .data, .sentinel, .sentinel, .pinned], laidTests := true, laidLooks := .later }
def FramingReadsCardSaid : Prop := Claim7.holds Tryd.pinned (.plain (OpenSpec.ofChange framingReadsSpec)) framingReadsCard

/-- THE TIED CARD OF 'gatepostlaw06.FramingBack'. -/
def framingBackCard : Claim7 := { stood := { row := framingBackRow, standIns := [], harness := (true, "99e32f3b98bcdfd90a0088d8f048446b56791a5b8b6e49234399558e6d6bf137"), looks := true }, kinds := [], alts := [], laidByText := true, laidKinds := [.data, .data, .data, .data, .sentinel, .sentinel, .pinned], laidTests := true, laidLooks := .later }
def FramingBackCardSaid : Prop := Claim7.holds Tryd.pinned (.plain (OpenSpec.ofChange framingBackSpec)) framingBackCard

/-- THE SECOND FORM's CARD OF 'gatepostlaw06.FramingChunks'. -/
def framingChunksUptoCard : Claim7 := { stood := { row := framingChunksUptoRow, standIns := [], harness := (true, "99e32f3b98bcdfd90a0088d8f048446b56791a5b8b6e49234399558e6d6bf137"), looks := true }, kinds := [], alts := [], laidByText := true, laidKinds := [.data, .data, .data], laidTests := true, laidLooks := .later }
def FramingChunksUptoCardSaid : Prop := Claim7.holds Tryd.pinned (.plain (OpenSpec.upto framingChunksSpec)) framingChunksUptoCard

/-- THE SECOND FORM's CARD OF 'gatepostlaw06.FramingSame'. -/
def framingSameUptoCard : Claim7 := { stood := { row := framingSameUptoRow, standIns := [], harness := (true, "99e32f3b98bcdfd90a0088d8f048446b56791a5b8b6e49234399558e6d6bf137"), looks := true }, kinds := [], alts := [], laidByText := true, laidKinds := [.data, .pinned], laidTests := true, laidLooks := .later }
def FramingSameUptoCardSaid : Prop := Claim7.holds Tryd.pinned (.plain (OpenSpec.upto framingSameSpec)) framingSameUptoCard

/-- THE SECOND FORM's CARD OF 'gatepostlaw06.FramingOf'. -/
def framingOfUptoCard : Claim7 := { stood := { row := framingOfUptoRow, standIns := [], harness := (true, "99e32f3b98bcdfd90a0088d8f048446b56791a5b8b6e49234399558e6d6bf137"), looks := true }, kinds := [], alts := [], laidByText := true, laidKinds := [.data, .pinned], laidTests := true, laidLooks := .later }
def FramingOfUptoCardSaid : Prop := Claim7.holds Tryd.pinned (.plain (OpenSpec.upto framingOfSpec)) framingOfUptoCard

/-- THE SECOND FORM's CARD OF 'gatepostlaw06.FramingCuts'. -/
def framingCutsUptoCard : Claim7 := { stood := { row := framingCutsUptoRow, standIns := [], harness := (true, "99e32f3b98bcdfd90a0088d8f048446b56791a5b8b6e49234399558e6d6bf137"), looks := true }, kinds := [], alts := [], laidByText := true, laidKinds := [.data, .data, .data, .data, .sentinel, .sentinel, .pinned], laidTests := true, laidLooks := .later }
def FramingCutsUptoCardSaid : Prop := Claim7.holds Tryd.pinned (.plain (OpenSpec.upto framingCutsSpec)) framingCutsUptoCard

/-- THE SECOND FORM's CARD OF 'gatepostlaw06.FramingReads'. -/
def framingReadsUptoCard : Claim7 := { stood := { row := framingReadsUptoRow, standIns := [], harness := (true, "99e32f3b98bcdfd90a0088d8f048446b56791a5b8b6e49234399558e6d6bf137"), looks := true }, kinds := [], alts := [], laidByText := true, laidKinds := [.data, .data, .data, .data, .sentinel, .sentinel, .pinned], laidTests := true, laidLooks := .later }
def FramingReadsUptoCardSaid : Prop := Claim7.holds Tryd.pinned (.plain (OpenSpec.upto framingReadsSpec)) framingReadsUptoCard

/-- THE SECOND FORM's CARD OF 'gatepostlaw06.FramingBack'. -/
def framingBackUptoCard : Claim7 := { stood := { row := framingBackUptoRow, standIns := [], harness := (true, "99e32f3b98bcdfd90a0088d8f048446b56791a5b8b6e49234399558e6d6bf137"), looks := true }, kinds := [], alts := [], laidByText := true, laidKinds := [.data, .data, .data, .data, .sentinel, .sentinel, .pinned], laidTests := true, laidLooks := .later }
def FramingBackUptoCardSaid : Prop := Claim7.holds Tryd.pinned (.plain (OpenSpec.upto framingBackSpec)) framingBackUptoCard
end Rows
end Go.Proofs.YtkfiafclddnaoaaDoor
