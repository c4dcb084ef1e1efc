/-
  DERIVED. GIVEN WITH THE SEED: THE CARDS: each row of YtfcegalckjeafaaGreatDoorRows.lean that lists a variable, with what it lists TIED to the program's text (the seventh form; the later family's looks); each row that meets fmt, with fmt's text TOLD by the authors' own Lean function (tested against real Go, not proved from fmt's source: count such statements apart). THE CARD IS WHAT COUNTS. Prove the row's statement (the work); the ties are given (YtfcegalckjeafaaGreatDoorTie.lean); close each card by the builder's one call (the guide's Derived/Test/ToyasCard.lean, 'card_holds'). Laid BY PROGRAM, IN A SANDBOX (cutbox-door.mjs). By AI agents, Wed Nov 11 2026. No macro, syntax, notation, axiom, sorry.
-/
import Derived.Test.YtfcegalckjeafaaGreatDoorRows
import GoSem.ClaimSeven
namespace Go.Proofs.YtfcegalckjeafaaGreatDoor
namespace Rows

/-- THE TIED CARD OF 'placketlaw15.AddrOwn'. -/
def addrOwnCard : Claim7 := { stood := { row := addrOwnRow, standIns := [], harness := (true, "580840e1eee41d1ce52a0be8d3cfaa7fe92b28aa451517d03a1085c737f7d925"), looks := true }, kinds := [], alts := [], laidByText := true, laidKinds := [.data, .data], laidTests := true, laidLooks := .later }
def AddrOwnCardSaid : Prop := Claim7.holds Tryz.pinned (.plain (OpenSpec.ofChange addrOwnSpec)) addrOwnCard

/-- THE TIED CARD OF 'placketlaw15.AddrTold'. -/
def addrToldCard : Claim7 := { stood := { row := addrToldRow, standIns := [], harness := (true, "580840e1eee41d1ce52a0be8d3cfaa7fe92b28aa451517d03a1085c737f7d925"), looks := true }, kinds := [], alts := [], laidByText := true, laidKinds := [.data, .data], laidTests := true, laidLooks := .later }
def AddrToldCardSaid : Prop := Claim7.holds Tryz.pinned (.plain (OpenSpec.ofChange addrToldSpec)) addrToldCard

/-- THE TIED CARD OF 'placketlaw15.AddrAll'. -/
def addrAllCard : Claim7 := { stood := { row := addrAllRow, standIns := [], harness := (true, "580840e1eee41d1ce52a0be8d3cfaa7fe92b28aa451517d03a1085c737f7d925"), looks := true }, kinds := [], alts := [], laidByText := true, laidKinds := [.data, .data], laidTests := true, laidLooks := .later }
def AddrAllCardSaid : Prop := Claim7.holds Tryz.pinned (.plain (OpenSpec.ofChange addrAllSpec)) addrAllCard

/-- THE TIED CARD OF 'placketlaw15.AddrBegins'. -/
def addrBeginsCard : Claim7 := { stood := { row := addrBeginsRow, standIns := [], harness := (true, "580840e1eee41d1ce52a0be8d3cfaa7fe92b28aa451517d03a1085c737f7d925"), looks := true }, kinds := [], alts := [], laidByText := true, laidKinds := [.data, .data], laidTests := true, laidLooks := .later }
def AddrBeginsCardSaid : Prop := Claim7.holds Tryz.pinned (.plain (OpenSpec.ofChange addrBeginsSpec)) addrBeginsCard

/-- THE TIED CARD OF 'placketlaw15.AddrTexts'. -/
def addrTextsCard : Claim7 := { stood := { row := addrTextsRow, standIns := [], harness := (true, "580840e1eee41d1ce52a0be8d3cfaa7fe92b28aa451517d03a1085c737f7d925"), looks := true }, kinds := [], alts := [], laidByText := true, laidKinds := [.data, .handle, .data], laidTests := true, laidLooks := .later }
def AddrTextsCardSaid : Prop := Claim7.holds Tryz.pinned (.plain (OpenSpec.ofChange addrTextsSpec)) addrTextsCard

/-- THE TIED CARD OF 'placketlaw15.AddrBack'. -/
def addrBackCard : Claim7 := { stood := { row := addrBackRow, standIns := [], harness := (true, "580840e1eee41d1ce52a0be8d3cfaa7fe92b28aa451517d03a1085c737f7d925"), looks := true }, kinds := [], alts := [], laidByText := true, laidKinds := [.data, .data], laidTests := true, laidLooks := .later }
def AddrBackCardSaid : Prop := Claim7.holds Tryz.pinned (.plain (OpenSpec.ofChange addrBackSpec)) addrBackCard

/-- THE TIED CARD OF 'placketlaw15.AddrGets'. -/
def addrGetsCard : Claim7 := { stood := { row := addrGetsRow, standIns := [], harness := (true, "580840e1eee41d1ce52a0be8d3cfaa7fe92b28aa451517d03a1085c737f7d925"), looks := true }, kinds := [], alts := [], laidByText := true, laidKinds := [.data, .handle, .data], laidTests := true, laidLooks := .later }
def AddrGetsCardSaid : Prop := Claim7.holds Tryz.pinned (.plain (OpenSpec.ofChange addrGetsSpec)) addrGetsCard

/-- THE TIED CARD OF 'placketlaw15.AddrDoes'. -/
def addrDoesCard : Claim7 := { stood := { row := addrDoesRow, standIns := [], harness := (true, "580840e1eee41d1ce52a0be8d3cfaa7fe92b28aa451517d03a1085c737f7d925"), looks := true }, kinds := [], alts := [], laidByText := true, laidKinds := [.data, .handle, .data], laidTests := true, laidLooks := .later }
def AddrDoesCardSaid : Prop := Claim7.holds Tryz.pinned (.plain (OpenSpec.ofChange addrDoesSpec)) addrDoesCard

/-- THE SECOND FORM's CARD OF 'placketlaw15.AddrOwn'. -/
def addrOwnUptoCard : Claim7 := { stood := { row := addrOwnUptoRow, standIns := [], harness := (true, "580840e1eee41d1ce52a0be8d3cfaa7fe92b28aa451517d03a1085c737f7d925"), looks := true }, kinds := [], alts := [], laidByText := true, laidKinds := [.data, .data], laidTests := true, laidLooks := .later }
def AddrOwnUptoCardSaid : Prop := Claim7.holds Tryz.pinned (.plain (OpenSpec.upto addrOwnSpec)) addrOwnUptoCard

/-- THE SECOND FORM's CARD OF 'placketlaw15.AddrTold'. -/
def addrToldUptoCard : Claim7 := { stood := { row := addrToldUptoRow, standIns := [], harness := (true, "580840e1eee41d1ce52a0be8d3cfaa7fe92b28aa451517d03a1085c737f7d925"), looks := true }, kinds := [], alts := [], laidByText := true, laidKinds := [.data, .data], laidTests := true, laidLooks := .later }
def AddrToldUptoCardSaid : Prop := Claim7.holds Tryz.pinned (.plain (OpenSpec.upto addrToldSpec)) addrToldUptoCard

/-- THE SECOND FORM's CARD OF 'placketlaw15.AddrAll'. -/
def addrAllUptoCard : Claim7 := { stood := { row := addrAllUptoRow, standIns := [], harness := (true, "580840e1eee41d1ce52a0be8d3cfaa7fe92b28aa451517d03a1085c737f7d925"), looks := true }, kinds := [], alts := [], laidByText := true, laidKinds := [.data, .data], laidTests := true, laidLooks := .later }
def AddrAllUptoCardSaid : Prop := Claim7.holds Tryz.pinned (.plain (OpenSpec.upto addrAllSpec)) addrAllUptoCard

/-- THE SECOND FORM's CARD OF 'placketlaw15.AddrBegins'. -/
def addrBeginsUptoCard : Claim7 := { stood := { row := addrBeginsUptoRow, standIns := [], harness := (true, "580840e1eee41d1ce52a0be8d3cfaa7fe92b28aa451517d03a1085c737f7d925"), looks := true }, kinds := [], alts := [], laidByText := true, laidKinds := [.data, .data], laidTests := true, laidLooks := .later }
def AddrBeginsUptoCardSaid : Prop := Claim7.holds Tryz.pinned (.plain (OpenSpec.upto addrBeginsSpec)) addrBeginsUptoCard

/-- THE SECOND FORM's CARD OF 'placketlaw15.AddrTexts'. -/
def addrTextsUptoCard : Claim7 := { stood := { row := addrTextsUptoRow, standIns := [], harness := (true, "580840e1eee41d1ce52a0be8d3cfaa7fe92b28aa451517d03a1085c737f7d925"), looks := true }, kinds := [], alts := [], laidByText := true, laidKinds := [.data, .handle, .data], laidTests := true, laidLooks := .later }
def AddrTextsUptoCardSaid : Prop := Claim7.holds Tryz.pinned (.plain (OpenSpec.upto addrTextsSpec)) addrTextsUptoCard

/-- THE SECOND FORM's CARD OF 'placketlaw15.AddrBack'. -/
def addrBackUptoCard : Claim7 := { stood := { row := addrBackUptoRow, standIns := [], harness := (true, "580840e1eee41d1ce52a0be8d3cfaa7fe92b28aa451517d03a1085c737f7d925"), looks := true }, kinds := [], alts := [], laidByText := true, laidKinds := [.data, .data], laidTests := true, laidLooks := .later }
def AddrBackUptoCardSaid : Prop := Claim7.holds Tryz.pinned (.plain (OpenSpec.upto addrBackSpec)) addrBackUptoCard

/-- THE SECOND FORM's CARD OF 'placketlaw15.AddrGets'. -/
def addrGetsUptoCard : Claim7 := { stood := { row := addrGetsUptoRow, standIns := [], harness := (true, "580840e1eee41d1ce52a0be8d3cfaa7fe92b28aa451517d03a1085c737f7d925"), looks := true }, kinds := [], alts := [], laidByText := true, laidKinds := [.data, .handle, .data], laidTests := true, laidLooks := .later }
def AddrGetsUptoCardSaid : Prop := Claim7.holds Tryz.pinned (.plain (OpenSpec.upto addrGetsSpec)) addrGetsUptoCard

/-- THE SECOND FORM's CARD OF 'placketlaw15.AddrDoes'. -/
def addrDoesUptoCard : Claim7 := { stood := { row := addrDoesUptoRow, standIns := [], harness := (true, "580840e1eee41d1ce52a0be8d3cfaa7fe92b28aa451517d03a1085c737f7d925"), looks := true }, kinds := [], alts := [], laidByText := true, laidKinds := [.data, .handle, .data], laidTests := true, laidLooks := .later }
def AddrDoesUptoCardSaid : Prop := Claim7.holds Tryz.pinned (.plain (OpenSpec.upto addrDoesSpec)) addrDoesUptoCard
end Rows
end Go.Proofs.YtfcegalckjeafaaGreatDoor
