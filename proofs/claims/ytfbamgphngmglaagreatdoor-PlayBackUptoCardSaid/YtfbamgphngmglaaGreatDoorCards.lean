/-
  DERIVED. GIVEN WITH THE SEED: THE CARDS: each row of YtfbamgphngmglaaGreatDoorRows.lean that lists a variable, with what it lists TIED to the program's text (the seventh form; the later family's looks); each row that meets fmt, with fmt's text TOLD by the authors' own Lean function (tested against real Go, not proved from fmt's source: count such statements apart). THE CARD IS WHAT COUNTS. Prove the row's statement (the work); the ties are given (YtfbamgphngmglaaGreatDoorTie.lean); close each card by the builder's one call (the guide's Derived/Test/ToyasCard.lean, 'card_holds'). Laid BY PROGRAM, IN A SANDBOX (cutbox-door.mjs). By AI agents, Wed Nov 11 2026. No macro, syntax, notation, axiom, sorry.
-/
import Derived.Test.YtfbamgphngmglaaGreatDoorRows
import GoSem.ClaimSeven
namespace Go.Proofs.YtfbamgphngmglaaGreatDoor
namespace Rows

/-- THE TIED CARD OF 'cyanotypelaw22.PlayParses'. -/
def playParsesCard : Claim7 := { stood := { row := playParsesRow, standIns := [], harness := (true, "10be9f86156b1f6c31e2fe51547b47c48b242c081ce857b1200ac0cc2eaf68e7"), looks := true }, kinds := [], alts := [], laidByText := true, laidKinds := [.data, .data, .data, .data, .data, .data, .data, .sentinel, .sentinel, .pinned], laidTests := true, laidLooks := .later }
def PlayParsesCardSaid : Prop := Claim7.holds Tryz.pinned (.plain (OpenSpec.ofChange playParsesSpec)) playParsesCard

/-- THE TIED CARD OF 'cyanotypelaw22.PlayBack'. -/
def playBackCard : Claim7 := { stood := { row := playBackRow, standIns := [], harness := (true, "10be9f86156b1f6c31e2fe51547b47c48b242c081ce857b1200ac0cc2eaf68e7"), looks := true }, kinds := [], alts := [], laidByText := true, laidKinds := [.data, .data, .data, .data, .data, .data, .data, .sentinel, .sentinel, .pinned], laidTests := true, laidLooks := .later }
def PlayBackCardSaid : Prop := Claim7.holds Tryz.pinned (.plain (OpenSpec.ofChange playBackSpec)) playBackCard

/-- THE TIED CARD OF 'cyanotypelaw22.PlayFlat'. -/
def playFlatCard : Claim7 := { stood := { row := playFlatRow, standIns := [], harness := (true, "10be9f86156b1f6c31e2fe51547b47c48b242c081ce857b1200ac0cc2eaf68e7"), looks := true }, kinds := [], alts := [], laidByText := true, laidKinds := [.data, .data, .data, .data, .data, .data, .data, .sentinel, .sentinel, .pinned], laidTests := true, laidLooks := .later }
def PlayFlatCardSaid : Prop := Claim7.holds Tryz.pinned (.plain (OpenSpec.ofChange playFlatSpec)) playFlatCard

/-- THE TIED CARD OF 'cyanotypelaw22.PlayBad'. -/
def playBadCard : Claim7 := { stood := { row := playBadRow, standIns := [], harness := (true, "10be9f86156b1f6c31e2fe51547b47c48b242c081ce857b1200ac0cc2eaf68e7"), looks := true }, kinds := [], alts := [], laidByText := true, laidKinds := [.data, .data, .data, .data, .data, .data, .data, .sentinel, .sentinel, .pinned], laidTests := true, laidLooks := .later }
def PlayBadCardSaid : Prop := Claim7.holds Tryz.pinned (.plain (OpenSpec.ofChange playBadSpec)) playBadCard

/-- THE SECOND FORM's CARD OF 'cyanotypelaw22.PlayParses'. -/
def playParsesUptoCard : Claim7 := { stood := { row := playParsesUptoRow, standIns := [], harness := (true, "10be9f86156b1f6c31e2fe51547b47c48b242c081ce857b1200ac0cc2eaf68e7"), looks := true }, kinds := [], alts := [], laidByText := true, laidKinds := [.data, .data, .data, .data, .data, .data, .data, .sentinel, .sentinel, .pinned], laidTests := true, laidLooks := .later }
def PlayParsesUptoCardSaid : Prop := Claim7.holds Tryz.pinned (.plain (OpenSpec.upto playParsesSpec)) playParsesUptoCard

/-- THE SECOND FORM's CARD OF 'cyanotypelaw22.PlayBack'. -/
def playBackUptoCard : Claim7 := { stood := { row := playBackUptoRow, standIns := [], harness := (true, "10be9f86156b1f6c31e2fe51547b47c48b242c081ce857b1200ac0cc2eaf68e7"), looks := true }, kinds := [], alts := [], laidByText := true, laidKinds := [.data, .data, .data, .data, .data, .data, .data, .sentinel, .sentinel, .pinned], laidTests := true, laidLooks := .later }
def PlayBackUptoCardSaid : Prop := Claim7.holds Tryz.pinned (.plain (OpenSpec.upto playBackSpec)) playBackUptoCard

/-- THE SECOND FORM's CARD OF 'cyanotypelaw22.PlayFlat'. -/
def playFlatUptoCard : Claim7 := { stood := { row := playFlatUptoRow, standIns := [], harness := (true, "10be9f86156b1f6c31e2fe51547b47c48b242c081ce857b1200ac0cc2eaf68e7"), looks := true }, kinds := [], alts := [], laidByText := true, laidKinds := [.data, .data, .data, .data, .data, .data, .data, .sentinel, .sentinel, .pinned], laidTests := true, laidLooks := .later }
def PlayFlatUptoCardSaid : Prop := Claim7.holds Tryz.pinned (.plain (OpenSpec.upto playFlatSpec)) playFlatUptoCard

/-- THE SECOND FORM's CARD OF 'cyanotypelaw22.PlayBad'. -/
def playBadUptoCard : Claim7 := { stood := { row := playBadUptoRow, standIns := [], harness := (true, "10be9f86156b1f6c31e2fe51547b47c48b242c081ce857b1200ac0cc2eaf68e7"), looks := true }, kinds := [], alts := [], laidByText := true, laidKinds := [.data, .data, .data, .data, .data, .data, .data, .sentinel, .sentinel, .pinned], laidTests := true, laidLooks := .later }
def PlayBadUptoCardSaid : Prop := Claim7.holds Tryz.pinned (.plain (OpenSpec.upto playBadSpec)) playBadUptoCard
end Rows
end Go.Proofs.YtfbamgphngmglaaGreatDoor
