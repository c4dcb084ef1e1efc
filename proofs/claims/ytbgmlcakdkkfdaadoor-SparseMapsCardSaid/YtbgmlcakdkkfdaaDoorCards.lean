/-
  DERIVED. GIVEN WITH THE SEED: THE CARDS: each row of YtbgmlcakdkkfdaaDoorRows.lean that lists a variable, with what it lists TIED to the program's text (the seventh form; the later family's looks); each row that meets fmt, with fmt's text TOLD by the authors' own Lean function (tested against real Go, not proved from fmt's source: count such statements apart). THE CARD IS WHAT COUNTS. Prove the row's statement (the work); the ties are given (YtbgmlcakdkkfdaaDoorTie.lean); close each card by the builder's one call (the guide's Derived/Test/ToyasCard.lean, 'card_holds'). Laid BY PROGRAM, IN A SANDBOX (cutbox-door.mjs). By AI agents, Wed Nov 11 2026. No macro, syntax, notation, axiom, sorry.
-/
import Derived.Test.YtbgmlcakdkkfdaaDoorRows
import GoSem.ClaimSeven
namespace Go.Proofs.YtbgmlcakdkkfdaaDoor
namespace Rows

/-- THE TIED CARD OF 'placketlaw06.SparseMade'. -/
def sparseMadeCard : Claim7 := { stood := { row := sparseMadeRow, standIns := [], harness := (true, "e6ed6280d2b8862abdd2c471f1c66c356796ec2ae8ffa1a298343f8c917826f5"), looks := false }, kinds := [], alts := [], laidByText := true, laidKinds := [.data], laidTests := true, laidLooks := .later }
def SparseMadeCardSaid : Prop := Claim7.holds Tryd.pinned (.plain (OpenSpec.ofChange sparseMadeSpec)) sparseMadeCard

/-- THE TIED CARD OF 'placketlaw06.SparseDoes'. -/
def sparseDoesCard : Claim7 := { stood := { row := sparseDoesRow, standIns := [], harness := (true, "e6ed6280d2b8862abdd2c471f1c66c356796ec2ae8ffa1a298343f8c917826f5"), looks := false }, kinds := [], alts := [], laidByText := true, laidKinds := [.data], laidTests := true, laidLooks := .later }
def SparseDoesCardSaid : Prop := Claim7.holds Tryd.pinned (.plain (OpenSpec.ofChange sparseDoesSpec)) sparseDoesCard

/-- THE TIED CARD OF 'placketlaw06.SparseBranches'. -/
def sparseBranchesCard : Claim7 := { stood := { row := sparseBranchesRow, standIns := [], harness := (true, "e6ed6280d2b8862abdd2c471f1c66c356796ec2ae8ffa1a298343f8c917826f5"), looks := false }, kinds := [], alts := [], laidByText := true, laidKinds := [.data], laidTests := true, laidLooks := .later }
def SparseBranchesCardSaid : Prop := Claim7.holds Tryd.pinned (.plain (OpenSpec.ofChange sparseBranchesSpec)) sparseBranchesCard

/-- THE TIED CARD OF 'placketlaw06.SparseOrder'. -/
def sparseOrderCard : Claim7 := { stood := { row := sparseOrderRow, standIns := [], harness := (true, "e6ed6280d2b8862abdd2c471f1c66c356796ec2ae8ffa1a298343f8c917826f5"), looks := false }, kinds := [], alts := [], laidByText := true, laidKinds := [.data], laidTests := true, laidLooks := .later }
def SparseOrderCardSaid : Prop := Claim7.holds Tryd.pinned (.plain (OpenSpec.ofChange sparseOrderSpec)) sparseOrderCard

/-- THE TIED CARD OF 'placketlaw06.SparseWalks'. -/
def sparseWalksCard : Claim7 := { stood := { row := sparseWalksRow, standIns := [], harness := (true, "e6ed6280d2b8862abdd2c471f1c66c356796ec2ae8ffa1a298343f8c917826f5"), looks := false }, kinds := [], alts := [], laidByText := true, laidKinds := [.data], laidTests := true, laidLooks := .later }
def SparseWalksCardSaid : Prop := Claim7.holds Tryd.pinned (.plain (OpenSpec.ofChange sparseWalksSpec)) sparseWalksCard

/-- THE TIED CARD OF 'placketlaw06.SparseMaps'. -/
def sparseMapsCard : Claim7 := { stood := { row := sparseMapsRow, standIns := [], harness := (true, "e6ed6280d2b8862abdd2c471f1c66c356796ec2ae8ffa1a298343f8c917826f5"), looks := false }, kinds := [], alts := [], laidByText := true, laidKinds := [.data], laidTests := true, laidLooks := .later }
def SparseMapsCardSaid : Prop := Claim7.holds Tryd.pinned (.plain (OpenSpec.ofChange sparseMapsSpec)) sparseMapsCard

/-- THE SECOND FORM's CARD OF 'placketlaw06.SparseMade'. -/
def sparseMadeUptoCard : Claim7 := { stood := { row := sparseMadeUptoRow, standIns := [], harness := (true, "e6ed6280d2b8862abdd2c471f1c66c356796ec2ae8ffa1a298343f8c917826f5"), looks := false }, kinds := [], alts := [], laidByText := true, laidKinds := [.data], laidTests := true, laidLooks := .later }
def SparseMadeUptoCardSaid : Prop := Claim7.holds Tryd.pinned (.plain (OpenSpec.upto sparseMadeSpec)) sparseMadeUptoCard

/-- THE SECOND FORM's CARD OF 'placketlaw06.SparseDoes'. -/
def sparseDoesUptoCard : Claim7 := { stood := { row := sparseDoesUptoRow, standIns := [], harness := (true, "e6ed6280d2b8862abdd2c471f1c66c356796ec2ae8ffa1a298343f8c917826f5"), looks := false }, kinds := [], alts := [], laidByText := true, laidKinds := [.data], laidTests := true, laidLooks := .later }
def SparseDoesUptoCardSaid : Prop := Claim7.holds Tryd.pinned (.plain (OpenSpec.upto sparseDoesSpec)) sparseDoesUptoCard

/-- THE SECOND FORM's CARD OF 'placketlaw06.SparseBranches'. -/
def sparseBranchesUptoCard : Claim7 := { stood := { row := sparseBranchesUptoRow, standIns := [], harness := (true, "e6ed6280d2b8862abdd2c471f1c66c356796ec2ae8ffa1a298343f8c917826f5"), looks := false }, kinds := [], alts := [], laidByText := true, laidKinds := [.data], laidTests := true, laidLooks := .later }
def SparseBranchesUptoCardSaid : Prop := Claim7.holds Tryd.pinned (.plain (OpenSpec.upto sparseBranchesSpec)) sparseBranchesUptoCard

/-- THE SECOND FORM's CARD OF 'placketlaw06.SparseOrder'. -/
def sparseOrderUptoCard : Claim7 := { stood := { row := sparseOrderUptoRow, standIns := [], harness := (true, "e6ed6280d2b8862abdd2c471f1c66c356796ec2ae8ffa1a298343f8c917826f5"), looks := false }, kinds := [], alts := [], laidByText := true, laidKinds := [.data], laidTests := true, laidLooks := .later }
def SparseOrderUptoCardSaid : Prop := Claim7.holds Tryd.pinned (.plain (OpenSpec.upto sparseOrderSpec)) sparseOrderUptoCard

/-- THE SECOND FORM's CARD OF 'placketlaw06.SparseWalks'. -/
def sparseWalksUptoCard : Claim7 := { stood := { row := sparseWalksUptoRow, standIns := [], harness := (true, "e6ed6280d2b8862abdd2c471f1c66c356796ec2ae8ffa1a298343f8c917826f5"), looks := false }, kinds := [], alts := [], laidByText := true, laidKinds := [.data], laidTests := true, laidLooks := .later }
def SparseWalksUptoCardSaid : Prop := Claim7.holds Tryd.pinned (.plain (OpenSpec.upto sparseWalksSpec)) sparseWalksUptoCard

/-- THE SECOND FORM's CARD OF 'placketlaw06.SparseMaps'. -/
def sparseMapsUptoCard : Claim7 := { stood := { row := sparseMapsUptoRow, standIns := [], harness := (true, "e6ed6280d2b8862abdd2c471f1c66c356796ec2ae8ffa1a298343f8c917826f5"), looks := false }, kinds := [], alts := [], laidByText := true, laidKinds := [.data], laidTests := true, laidLooks := .later }
def SparseMapsUptoCardSaid : Prop := Claim7.holds Tryd.pinned (.plain (OpenSpec.upto sparseMapsSpec)) sparseMapsUptoCard
end Rows
end Go.Proofs.YtbgmlcakdkkfdaaDoor
