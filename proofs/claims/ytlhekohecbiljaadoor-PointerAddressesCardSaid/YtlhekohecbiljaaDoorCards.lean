/-
  DERIVED. GIVEN WITH THE SEED: THE CARDS: each row of YtlhekohecbiljaaDoorRows.lean that lists a variable, with what it lists TIED to the program's text (the seventh form; the later family's looks); each row that meets fmt, with fmt's text TOLD by the authors' own Lean function (tested against real Go, not proved from fmt's source: count such statements apart). THE CARD IS WHAT COUNTS. Prove the row's statement (the work); the ties are given (YtlhekohecbiljaaDoorTie.lean); close each card by the builder's one call (the guide's Derived/Test/ToyasCard.lean, 'card_holds'). Laid BY PROGRAM, IN A SANDBOX (cutbox-door.mjs). By AI agents, Wed Nov 11 2026. No macro, syntax, notation, axiom, sorry.
-/
import Derived.Test.YtlhekohecbiljaaDoorRows
import GoSem.ClaimSeven
namespace Go.Proofs.YtlhekohecbiljaaDoor
namespace Rows

/-- THE TIED CARD OF 'placketlaw22.PointerEscapes'. -/
def pointerEscapesCard : Claim7 := { stood := { row := pointerEscapesRow, standIns := [], harness := (true, "d05110ee09dcff552d0f88e6fb00500d80f30c35007a08cc051b3f26b24fe33f"), looks := true }, kinds := [], alts := [], laidByText := true, laidKinds := [.data, .handle, .pinned], laidTests := true, laidLooks := .later }
def PointerEscapesCardSaid : Prop := Claim7.holds Tryd.pinned (.plain (OpenSpec.ofChange pointerEscapesSpec)) pointerEscapesCard

/-- THE TIED CARD OF 'placketlaw22.PointerBack'. -/
def pointerBackCard : Claim7 := { stood := { row := pointerBackRow, standIns := [], harness := (true, "d05110ee09dcff552d0f88e6fb00500d80f30c35007a08cc051b3f26b24fe33f"), looks := true }, kinds := [], alts := [], laidByText := true, laidKinds := [.data, .handle, .pinned], laidTests := true, laidLooks := .later }
def PointerBackCardSaid : Prop := Claim7.holds Tryd.pinned (.plain (OpenSpec.ofChange pointerBackSpec)) pointerBackCard

/-- THE TIED CARD OF 'placketlaw22.PointerSplits'. -/
def pointerSplitsCard : Claim7 := { stood := { row := pointerSplitsRow, standIns := [], harness := (true, "d05110ee09dcff552d0f88e6fb00500d80f30c35007a08cc051b3f26b24fe33f"), looks := true }, kinds := [], alts := [], laidByText := true, laidKinds := [.data, .handle, .pinned], laidTests := true, laidLooks := .later }
def PointerSplitsCardSaid : Prop := Claim7.holds Tryd.pinned (.plain (OpenSpec.ofChange pointerSplitsSpec)) pointerSplitsCard

/-- THE TIED CARD OF 'placketlaw22.PointerAddresses'. -/
def pointerAddressesCard : Claim7 := { stood := { row := pointerAddressesRow, standIns := [], harness := (true, "d05110ee09dcff552d0f88e6fb00500d80f30c35007a08cc051b3f26b24fe33f"), looks := true }, kinds := [], alts := [], laidByText := true, laidKinds := [.data, .handle, .pinned], laidTests := true, laidLooks := .later }
def PointerAddressesCardSaid : Prop := Claim7.holds Tryd.pinned (.plain (OpenSpec.ofChange pointerAddressesSpec)) pointerAddressesCard

/-- THE SECOND FORM's CARD OF 'placketlaw22.PointerEscapes'. -/
def pointerEscapesUptoCard : Claim7 := { stood := { row := pointerEscapesUptoRow, standIns := [], harness := (true, "d05110ee09dcff552d0f88e6fb00500d80f30c35007a08cc051b3f26b24fe33f"), looks := true }, kinds := [], alts := [], laidByText := true, laidKinds := [.data, .handle, .pinned], laidTests := true, laidLooks := .later }
def PointerEscapesUptoCardSaid : Prop := Claim7.holds Tryd.pinned (.plain (OpenSpec.upto pointerEscapesSpec)) pointerEscapesUptoCard

/-- THE SECOND FORM's CARD OF 'placketlaw22.PointerBack'. -/
def pointerBackUptoCard : Claim7 := { stood := { row := pointerBackUptoRow, standIns := [], harness := (true, "d05110ee09dcff552d0f88e6fb00500d80f30c35007a08cc051b3f26b24fe33f"), looks := true }, kinds := [], alts := [], laidByText := true, laidKinds := [.data, .handle, .pinned], laidTests := true, laidLooks := .later }
def PointerBackUptoCardSaid : Prop := Claim7.holds Tryd.pinned (.plain (OpenSpec.upto pointerBackSpec)) pointerBackUptoCard

/-- THE SECOND FORM's CARD OF 'placketlaw22.PointerSplits'. -/
def pointerSplitsUptoCard : Claim7 := { stood := { row := pointerSplitsUptoRow, standIns := [], harness := (true, "d05110ee09dcff552d0f88e6fb00500d80f30c35007a08cc051b3f26b24fe33f"), looks := true }, kinds := [], alts := [], laidByText := true, laidKinds := [.data, .handle, .pinned], laidTests := true, laidLooks := .later }
def PointerSplitsUptoCardSaid : Prop := Claim7.holds Tryd.pinned (.plain (OpenSpec.upto pointerSplitsSpec)) pointerSplitsUptoCard

/-- THE SECOND FORM's CARD OF 'placketlaw22.PointerAddresses'. -/
def pointerAddressesUptoCard : Claim7 := { stood := { row := pointerAddressesUptoRow, standIns := [], harness := (true, "d05110ee09dcff552d0f88e6fb00500d80f30c35007a08cc051b3f26b24fe33f"), looks := true }, kinds := [], alts := [], laidByText := true, laidKinds := [.data, .handle, .pinned], laidTests := true, laidLooks := .later }
def PointerAddressesUptoCardSaid : Prop := Claim7.holds Tryd.pinned (.plain (OpenSpec.upto pointerAddressesSpec)) pointerAddressesUptoCard
end Rows
end Go.Proofs.YtlhekohecbiljaaDoor
