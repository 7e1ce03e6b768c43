/-
  DERIVED. GIVEN WITH THE SEED: THE CARDS: each row of YtalanaongfnndaaDoorRows.lean that lists a variable, with what it lists TIED to the program's text (the seventh form; the later family's looks); each row that meets fmt, with fmt's text TOLD by the authors' own Lean function (tested against real Go, not proved from fmt's source: count such statements apart). THE CARD IS WHAT COUNTS. Prove the row's statement (the work); the ties are given (YtalanaongfnndaaDoorTie.lean); close each card by the builder's one call (the guide's Derived/Test/ToyasCard.lean, 'card_holds'). Laid BY PROGRAM, IN A SANDBOX (cutbox-door.mjs). By AI agents, Wed Nov 11 2026. No macro, syntax, notation, axiom, sorry.
-/
import Derived.Test.YtalanaongfnndaaDoorRows
import GoSem.ClaimSeven
namespace Go.Proofs.YtalanaongfnndaaDoor
namespace Rows

/-- THE TIED CARD OF 'shelfmarklaw5.CodecKnown'. -/
def codecKnownCard : Claim7 := { stood := { row := codecKnownRow, standIns := [], harness := (true, "e84b60ece6834671a023b1aa5ae947614f11ab7a74e9cfee4dcdcaa71a7c6098"), looks := false }, kinds := [], alts := [], laidByText := true, laidKinds := [.data, .pinned], laidTests := true, laidLooks := .later }
def CodecKnownCardSaid : Prop := Claim7.holds Tryd.pinned (.plain (OpenSpec.ofChange codecKnownSpec)) codecKnownCard

/-- THE TIED CARD OF 'shelfmarklaw5.CodecBack'. -/
def codecBackCard : Claim7 := { stood := { row := codecBackRow, standIns := [], harness := (true, "e84b60ece6834671a023b1aa5ae947614f11ab7a74e9cfee4dcdcaa71a7c6098"), looks := false }, kinds := [], alts := [], laidByText := true, laidKinds := [.data, .pinned], laidTests := true, laidLooks := .later }
def CodecBackCardSaid : Prop := Claim7.holds Tryd.pinned (.plain (OpenSpec.ofChange codecBackSpec)) codecBackCard

/-- THE TIED CARD OF 'shelfmarklaw5.CodecAll'. -/
def codecAllCard : Claim7 := { stood := { row := codecAllRow, standIns := [], harness := (true, "e84b60ece6834671a023b1aa5ae947614f11ab7a74e9cfee4dcdcaa71a7c6098"), looks := false }, kinds := [], alts := [], laidByText := true, laidKinds := [.data, .pinned], laidTests := true, laidLooks := .later }
def CodecAllCardSaid : Prop := Claim7.holds Tryd.pinned (.plain (OpenSpec.ofChange codecAllSpec)) codecAllCard

/-- THE SECOND FORM's CARD OF 'shelfmarklaw5.CodecKnown'. -/
def codecKnownUptoCard : Claim7 := { stood := { row := codecKnownUptoRow, standIns := [], harness := (true, "e84b60ece6834671a023b1aa5ae947614f11ab7a74e9cfee4dcdcaa71a7c6098"), looks := false }, kinds := [], alts := [], laidByText := true, laidKinds := [.data, .pinned], laidTests := true, laidLooks := .later }
def CodecKnownUptoCardSaid : Prop := Claim7.holds Tryd.pinned (.plain (OpenSpec.upto codecKnownSpec)) codecKnownUptoCard

/-- THE SECOND FORM's CARD OF 'shelfmarklaw5.CodecBack'. -/
def codecBackUptoCard : Claim7 := { stood := { row := codecBackUptoRow, standIns := [], harness := (true, "e84b60ece6834671a023b1aa5ae947614f11ab7a74e9cfee4dcdcaa71a7c6098"), looks := false }, kinds := [], alts := [], laidByText := true, laidKinds := [.data, .pinned], laidTests := true, laidLooks := .later }
def CodecBackUptoCardSaid : Prop := Claim7.holds Tryd.pinned (.plain (OpenSpec.upto codecBackSpec)) codecBackUptoCard

/-- THE SECOND FORM's CARD OF 'shelfmarklaw5.CodecAll'. -/
def codecAllUptoCard : Claim7 := { stood := { row := codecAllUptoRow, standIns := [], harness := (true, "e84b60ece6834671a023b1aa5ae947614f11ab7a74e9cfee4dcdcaa71a7c6098"), looks := false }, kinds := [], alts := [], laidByText := true, laidKinds := [.data, .pinned], laidTests := true, laidLooks := .later }
def CodecAllUptoCardSaid : Prop := Claim7.holds Tryd.pinned (.plain (OpenSpec.upto codecAllSpec)) codecAllUptoCard
end Rows
end Go.Proofs.YtalanaongfnndaaDoor
