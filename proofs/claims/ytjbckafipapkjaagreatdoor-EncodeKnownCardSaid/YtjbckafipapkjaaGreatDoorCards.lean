/-
  DERIVED. GIVEN WITH THE SEED: THE CARDS: each row of YtjbckafipapkjaaGreatDoorRows.lean that lists a variable, with what it lists TIED to the program's text (the seventh form; the later family's looks); each row that meets fmt, with fmt's text TOLD by the authors' own Lean function (tested against real Go, not proved from fmt's source: count such statements apart). THE CARD IS WHAT COUNTS. Prove the row's statement (the work); the ties are given (YtjbckafipapkjaaGreatDoorTie.lean); close each card by the builder's one call (the guide's Derived/Test/ToyasCard.lean, 'card_holds'). Laid BY PROGRAM, IN A SANDBOX (cutbox-door.mjs). By AI agents, Wed Nov 11 2026. No macro, syntax, notation, axiom, sorry.
-/
import Derived.Test.YtjbckafipapkjaaGreatDoorRows
import GoSem.ClaimSeven
namespace Go.Proofs.YtjbckafipapkjaaGreatDoor
namespace Rows

/-- THE TIED CARD OF 'linotypelaw19.TableKnown'. -/
def tableKnownCard : Claim7 := { stood := { row := tableKnownRow, standIns := [], harness := (true, "80b613530316c5e555f192e2c9c4a445c2b2fd3652c28d5ac126fd83f872205c"), looks := true }, kinds := [], alts := [], laidByText := true, laidKinds := [.data, .data, .data, .data, .sentinel, .sentinel, .listed, .data, .pinned], laidTests := true, laidLooks := .later }
def TableKnownCardSaid : Prop := Claim7.holds Tryz.pinned (.plain (OpenSpec.ofChange tableKnownSpec)) tableKnownCard

/-- THE TIED CARD OF 'linotypelaw20.EncodeKnown'. -/
def encodeKnownCard : Claim7 := { stood := { row := encodeKnownRow, standIns := [], harness := (true, "80b613530316c5e555f192e2c9c4a445c2b2fd3652c28d5ac126fd83f872205c"), looks := true }, kinds := [], alts := [], laidByText := true, laidKinds := [.data, .data, .data, .data, .sentinel, .sentinel, .listed, .data, .pinned], laidTests := true, laidLooks := .later }
def EncodeKnownCardSaid : Prop := Claim7.holds Tryz.pinned (.plain (OpenSpec.ofChange encodeKnownSpec)) encodeKnownCard

/-- THE TIED CARD OF 'linotypelaw21.DecodeKnown'. -/
def decodeKnownCard : Claim7 := { stood := { row := decodeKnownRow, standIns := [], harness := (true, "80b613530316c5e555f192e2c9c4a445c2b2fd3652c28d5ac126fd83f872205c"), looks := true }, kinds := [], alts := [], laidByText := true, laidKinds := [.data, .data, .data, .data, .sentinel, .sentinel, .listed, .data, .pinned], laidTests := true, laidLooks := .later }
def DecodeKnownCardSaid : Prop := Claim7.holds Tryz.pinned (.plain (OpenSpec.ofChange decodeKnownSpec)) decodeKnownCard

/-- THE SECOND FORM's CARD OF 'linotypelaw19.TableKnown'. -/
def tableKnownUptoCard : Claim7 := { stood := { row := tableKnownUptoRow, standIns := [], harness := (true, "80b613530316c5e555f192e2c9c4a445c2b2fd3652c28d5ac126fd83f872205c"), looks := true }, kinds := [], alts := [], laidByText := true, laidKinds := [.data, .data, .data, .data, .sentinel, .sentinel, .listed, .data, .pinned], laidTests := true, laidLooks := .later }
def TableKnownUptoCardSaid : Prop := Claim7.holds Tryz.pinned (.plain (OpenSpec.upto tableKnownSpec)) tableKnownUptoCard

/-- THE SECOND FORM's CARD OF 'linotypelaw20.EncodeKnown'. -/
def encodeKnownUptoCard : Claim7 := { stood := { row := encodeKnownUptoRow, standIns := [], harness := (true, "80b613530316c5e555f192e2c9c4a445c2b2fd3652c28d5ac126fd83f872205c"), looks := true }, kinds := [], alts := [], laidByText := true, laidKinds := [.data, .data, .data, .data, .sentinel, .sentinel, .listed, .data, .pinned], laidTests := true, laidLooks := .later }
def EncodeKnownUptoCardSaid : Prop := Claim7.holds Tryz.pinned (.plain (OpenSpec.upto encodeKnownSpec)) encodeKnownUptoCard

/-- THE SECOND FORM's CARD OF 'linotypelaw21.DecodeKnown'. -/
def decodeKnownUptoCard : Claim7 := { stood := { row := decodeKnownUptoRow, standIns := [], harness := (true, "80b613530316c5e555f192e2c9c4a445c2b2fd3652c28d5ac126fd83f872205c"), looks := true }, kinds := [], alts := [], laidByText := true, laidKinds := [.data, .data, .data, .data, .sentinel, .sentinel, .listed, .data, .pinned], laidTests := true, laidLooks := .later }
def DecodeKnownUptoCardSaid : Prop := Claim7.holds Tryz.pinned (.plain (OpenSpec.upto decodeKnownSpec)) decodeKnownUptoCard
end Rows
end Go.Proofs.YtjbckafipapkjaaGreatDoor
