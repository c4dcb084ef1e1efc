/-
  NARROWER THAN 'FOR EVERY INPUT', by the rows' own cells (each row's printed sentence says how): SparseMade: laid · SparseDoes: laid · SparseBranches: laid · SparseOrder: laid · SparseWalks: laid · SparseMaps: laid.
  DERIVED. THE GIVEN ROWS OF THIS SEAT. 6 by the template 'for every input the law returns true; each argument reads behind the call as it read before'; 0 by the template 'total and deterministic' (their statements: YtbgmlcakdkkfdaaDoorTotals.lean).
  GIVEN WITH THE SEED: the statements are not yours to turn. If you find one false, say at which input.
  Laid BY PROGRAM, IN A SANDBOX (cutbox-rows.mjs): the forced cells as the released guide's own fill.sh prints them over the translation 0f3a9f22c6374f93… (all of the seat's roots in one cut). By AI agents, Wed Nov 11 2026. No macro, syntax, notation, axiom, sorry.
-/
import Derived.Test.YtbgmlcakdkkfdaaDoorChecked
import GoSem.Claim
import GoSem.ClaimJoined
import GoSem.ClaimMapViews
import Derived.JoinedTies
import Derived.KernelRfl
namespace Go.Proofs.YtbgmlcakdkkfdaaDoor
/- THE CELL 'sum', in the pinned program and in every row, IS THE sha256 OF THE DUMP (.gsa) THAT YtbgmlcakdkkfdaaDoorProg.lean LOADS. Nothing in Lean hashes anything: it is a label: what it is worth is what the hold of that sum in a sandbox is worth. -/
noncomputable def Tryd.pinned : Pinned := { name := "ytbgmlcakdkkfdaadoor", sum := "0f3a9f22c6374f93926db039d6781aa47c2388fb62a8b899eb6566ee4cfe9882", checked := Tryd.checked }
namespace Rows
def none {H : Type} : Left H := { results := [], args := [] }

/- WHAT THE LISTED PACKAGE-LEVEL VARIABLES READ AS WHEN THE CALL BEGINS. Each datum BY PROGRAM (the guide's laid-datum.mjs) off the statement by which the dump's own 'gosem.cut.vars' lays the variable. In a bare row this is a premise. The card (YtbgmlcakdkkfdaaDoorCards.lean) ties it to the program's text. -/
def laid_math_bits_deBruijn32tab {H : Type} : DataW H := .agg [.lit (.int .u8 0), .lit (.int .u8 1), .lit (.int .u8 28), .lit (.int .u8 2), .lit (.int .u8 29), .lit (.int .u8 14), .lit (.int .u8 24), .lit (.int .u8 3), .lit (.int .u8 30), .lit (.int .u8 22), .lit (.int .u8 20), .lit (.int .u8 15), .lit (.int .u8 25), .lit (.int .u8 17), .lit (.int .u8 4), .lit (.int .u8 8), .lit (.int .u8 31), .lit (.int .u8 27), .lit (.int .u8 13), .lit (.int .u8 23), .lit (.int .u8 21), .lit (.int .u8 19), .lit (.int .u8 16), .lit (.int .u8 7), .lit (.int .u8 26), .lit (.int .u8 12), .lit (.int .u8 18), .lit (.int .u8 6), .lit (.int .u8 11), .lit (.int .u8 5), .lit (.int .u8 10), .lit (.int .u8 9)]

/-- 'placketlaw06.SparseMade': WHATEVER THE INPUT: true; the input reads as it did. -/
def sparseMadeSpec : ChangeSpec := { name := "sparseMade", fn := fun _ => fun
  | [d1, d2] => { results := [.lit (.bool true)], args := [d1, d2] }
  | _ => none }
def sparseMadeRow : OpenClaim := { program := "ytbgmlcakdkkfdaadoor", sum := "0f3a9f22c6374f93926db039d6781aa47c2388fb62a8b899eb6566ee4cfe9882", func := "placket/placketlaw06.SparseMade", spec := "sparseMade", named := ["math/bits.deBruijn32tab"], apart := false, laid := [("math/bits.deBruijn32tab", laid_math_bits_deBruijn32tab)] }
def SparseMadeSaid : Prop := sparseMadeRow.holds Tryd.pinned (OpenSpec.ofChange sparseMadeSpec)

/-- ITS FALSE NEIGHBOUR: 'it returns false'. Refute it at one input. -/
def sparseMadeWrong : ChangeSpec := { name := "sparseMade", fn := fun _ => fun
  | [d1, d2] => { results := [.lit (.bool false)], args := [d1, d2] }
  | _ => none }
def SparseMadeWrongFalsely : Prop := sparseMadeRow.holds Tryd.pinned (OpenSpec.ofChange sparseMadeWrong)

/-- 'placketlaw06.SparseDoes': WHATEVER THE INPUT: true; the input reads as it did. -/
def sparseDoesSpec : ChangeSpec := { name := "sparseDoes", fn := fun _ => fun
  | [d1, d2] => { results := [.lit (.bool true)], args := [d1, d2] }
  | _ => none }
def sparseDoesRow : OpenClaim := { program := "ytbgmlcakdkkfdaadoor", sum := "0f3a9f22c6374f93926db039d6781aa47c2388fb62a8b899eb6566ee4cfe9882", func := "placket/placketlaw06.SparseDoes", spec := "sparseDoes", named := ["math/bits.deBruijn32tab"], apart := false, laid := [("math/bits.deBruijn32tab", laid_math_bits_deBruijn32tab)] }
def SparseDoesSaid : Prop := sparseDoesRow.holds Tryd.pinned (OpenSpec.ofChange sparseDoesSpec)

/-- ITS FALSE NEIGHBOUR: 'it returns false'. Refute it at one input. -/
def sparseDoesWrong : ChangeSpec := { name := "sparseDoes", fn := fun _ => fun
  | [d1, d2] => { results := [.lit (.bool false)], args := [d1, d2] }
  | _ => none }
def SparseDoesWrongFalsely : Prop := sparseDoesRow.holds Tryd.pinned (OpenSpec.ofChange sparseDoesWrong)

/-- 'placketlaw06.SparseBranches': WHATEVER THE INPUT: true; the input reads as it did. -/
def sparseBranchesSpec : ChangeSpec := { name := "sparseBranches", fn := fun _ => fun
  | [d1, d2, d3] => { results := [.lit (.bool true)], args := [d1, d2, d3] }
  | _ => none }
def sparseBranchesRow : OpenClaim := { program := "ytbgmlcakdkkfdaadoor", sum := "0f3a9f22c6374f93926db039d6781aa47c2388fb62a8b899eb6566ee4cfe9882", func := "placket/placketlaw06.SparseBranches", spec := "sparseBranches", named := ["math/bits.deBruijn32tab"], apart := false, laid := [("math/bits.deBruijn32tab", laid_math_bits_deBruijn32tab)] }
def SparseBranchesSaid : Prop := sparseBranchesRow.holds Tryd.pinned (OpenSpec.ofChange sparseBranchesSpec)

/-- ITS FALSE NEIGHBOUR: 'it returns false'. Refute it at one input. -/
def sparseBranchesWrong : ChangeSpec := { name := "sparseBranches", fn := fun _ => fun
  | [d1, d2, d3] => { results := [.lit (.bool false)], args := [d1, d2, d3] }
  | _ => none }
def SparseBranchesWrongFalsely : Prop := sparseBranchesRow.holds Tryd.pinned (OpenSpec.ofChange sparseBranchesWrong)

/-- 'placketlaw06.SparseOrder': WHATEVER THE INPUT: true; the input reads as it did. -/
def sparseOrderSpec : ChangeSpec := { name := "sparseOrder", fn := fun _ => fun
  | [d1, d2, d3] => { results := [.lit (.bool true)], args := [d1, d2, d3] }
  | _ => none }
def sparseOrderRow : OpenClaim := { program := "ytbgmlcakdkkfdaadoor", sum := "0f3a9f22c6374f93926db039d6781aa47c2388fb62a8b899eb6566ee4cfe9882", func := "placket/placketlaw06.SparseOrder", spec := "sparseOrder", named := ["math/bits.deBruijn32tab"], apart := false, laid := [("math/bits.deBruijn32tab", laid_math_bits_deBruijn32tab)] }
def SparseOrderSaid : Prop := sparseOrderRow.holds Tryd.pinned (OpenSpec.ofChange sparseOrderSpec)

/-- ITS FALSE NEIGHBOUR: 'it returns false'. Refute it at one input. -/
def sparseOrderWrong : ChangeSpec := { name := "sparseOrder", fn := fun _ => fun
  | [d1, d2, d3] => { results := [.lit (.bool false)], args := [d1, d2, d3] }
  | _ => none }
def SparseOrderWrongFalsely : Prop := sparseOrderRow.holds Tryd.pinned (OpenSpec.ofChange sparseOrderWrong)

/-- 'placketlaw06.SparseWalks': WHATEVER THE INPUT: true; the input reads as it did. -/
def sparseWalksSpec : ChangeSpec := { name := "sparseWalks", fn := fun _ => fun
  | [d1, d2] => { results := [.lit (.bool true)], args := [d1, d2] }
  | _ => none }
def sparseWalksRow : OpenClaim := { program := "ytbgmlcakdkkfdaadoor", sum := "0f3a9f22c6374f93926db039d6781aa47c2388fb62a8b899eb6566ee4cfe9882", func := "placket/placketlaw06.SparseWalks", spec := "sparseWalks", unfollowed := true, recurses := true, named := ["math/bits.deBruijn32tab"], apart := false, laid := [("math/bits.deBruijn32tab", laid_math_bits_deBruijn32tab)] }
def SparseWalksSaid : Prop := sparseWalksRow.holds Tryd.pinned (OpenSpec.ofChange sparseWalksSpec)

/-- ITS FALSE NEIGHBOUR: 'it returns false'. Refute it at one input. -/
def sparseWalksWrong : ChangeSpec := { name := "sparseWalks", fn := fun _ => fun
  | [d1, d2] => { results := [.lit (.bool false)], args := [d1, d2] }
  | _ => none }
def SparseWalksWrongFalsely : Prop := sparseWalksRow.holds Tryd.pinned (OpenSpec.ofChange sparseWalksWrong)

/-- 'placketlaw06.SparseMaps': WHATEVER THE INPUT: true; the input reads as it did. -/
def sparseMapsSpec : ChangeSpec := { name := "sparseMaps", fn := fun _ => fun
  | [d1, d2] => { results := [.lit (.bool true)], args := [d1, d2] }
  | _ => none }
def sparseMapsRow : OpenClaim := { program := "ytbgmlcakdkkfdaadoor", sum := "0f3a9f22c6374f93926db039d6781aa47c2388fb62a8b899eb6566ee4cfe9882", func := "placket/placketlaw06.SparseMaps", spec := "sparseMaps", unfollowed := true, recurses := true, named := ["math/bits.deBruijn32tab"], apart := false, laid := [("math/bits.deBruijn32tab", laid_math_bits_deBruijn32tab)] }
def SparseMapsSaid : Prop := sparseMapsRow.holds Tryd.pinned (OpenSpec.ofChange sparseMapsSpec)

/-- ITS FALSE NEIGHBOUR: 'it returns false'. Refute it at one input. -/
def sparseMapsWrong : ChangeSpec := { name := "sparseMaps", fn := fun _ => fun
  | [d1, d2] => { results := [.lit (.bool false)], args := [d1, d2] }
  | _ => none }
def SparseMapsWrongFalsely : Prop := sparseMapsRow.holds Tryd.pinned (OpenSpec.ofChange sparseMapsWrong)

/- THE SECOND FORM. 'bulk': how many values and letters a reading holds, each counted each time it is reached (what is shared counts as often as it is met; a slice's spare places count too). A statement '..UptoSaid' is the law's where the arguments, and the package variables that the reading takes, are together of bulk at most 1048576: NARROWER than '..Said'. Prove '..Said' where nothing that the law and all that it calls make is longer than what came in: it says more and counts as full. Else prove '..UptoSaid'. A law counts once. -/
mutual
def uptoBulk {H : Type} : DataW H → Nat
  | .lit (.string bytes) => bytes.length + 1
  | .lit _ => 1
  | .nil => 1
  | .ptr d => uptoBulk d + 1
  | .slice elems spare => uptoBulkAll elems + uptoBulkAll spare + 1
  | .agg parts => uptoBulkAll parts + 1
  | .iface _ d => uptoBulk d + 1
  | .map entries => uptoBulkEntries entries + 1
  | .held _ => 1
def uptoBulkAll {H : Type} : List (DataW H) → Nat
  | [] => 0
  | d :: r => uptoBulk d + uptoBulkAll r
def uptoBulkEntries {H : Type} : List (Lit × DataW H) → Nat
  | [] => 0
  | x :: r => uptoBulkEntry x + uptoBulkEntries r
def uptoBulkEntry {H : Type} : Lit × DataW H → Nat
  | (.string bytes, d) => bytes.length + uptoBulk d + 1
  | (_, d) => uptoBulk d + 1
 end
def uptoSmall : (H : Type) → List (DataW H) → Bool := fun _ ds => decide (uptoBulkAll ds ≤ 1048576)
def OpenSpec.upto (s : _root_.Go.ChangeSpec) : _root_.Go.OpenSpec := { _root_.Go.OpenSpec.ofChange s with cond := some uptoSmall }

/-- 'placketlaw06.SparseMade', WHERE WHAT IT READS IS OF BULK AT MOST 1048576: true; the input reads as it did. -/
def sparseMadeUptoRow : OpenClaim := { program := "ytbgmlcakdkkfdaadoor", sum := "0f3a9f22c6374f93926db039d6781aa47c2388fb62a8b899eb6566ee4cfe9882", func := "placket/placketlaw06.SparseMade", spec := "sparseMade", named := ["math/bits.deBruijn32tab"], apart := false, laid := [("math/bits.deBruijn32tab", laid_math_bits_deBruijn32tab)], narrowed := true }
def SparseMadeUptoSaid : Prop := sparseMadeUptoRow.holds Tryd.pinned (OpenSpec.upto sparseMadeSpec)

/-- 'placketlaw06.SparseDoes', WHERE WHAT IT READS IS OF BULK AT MOST 1048576: true; the input reads as it did. -/
def sparseDoesUptoRow : OpenClaim := { program := "ytbgmlcakdkkfdaadoor", sum := "0f3a9f22c6374f93926db039d6781aa47c2388fb62a8b899eb6566ee4cfe9882", func := "placket/placketlaw06.SparseDoes", spec := "sparseDoes", named := ["math/bits.deBruijn32tab"], apart := false, laid := [("math/bits.deBruijn32tab", laid_math_bits_deBruijn32tab)], narrowed := true }
def SparseDoesUptoSaid : Prop := sparseDoesUptoRow.holds Tryd.pinned (OpenSpec.upto sparseDoesSpec)

/-- 'placketlaw06.SparseBranches', WHERE WHAT IT READS IS OF BULK AT MOST 1048576: true; the input reads as it did. -/
def sparseBranchesUptoRow : OpenClaim := { program := "ytbgmlcakdkkfdaadoor", sum := "0f3a9f22c6374f93926db039d6781aa47c2388fb62a8b899eb6566ee4cfe9882", func := "placket/placketlaw06.SparseBranches", spec := "sparseBranches", named := ["math/bits.deBruijn32tab"], apart := false, laid := [("math/bits.deBruijn32tab", laid_math_bits_deBruijn32tab)], narrowed := true }
def SparseBranchesUptoSaid : Prop := sparseBranchesUptoRow.holds Tryd.pinned (OpenSpec.upto sparseBranchesSpec)

/-- 'placketlaw06.SparseOrder', WHERE WHAT IT READS IS OF BULK AT MOST 1048576: true; the input reads as it did. -/
def sparseOrderUptoRow : OpenClaim := { program := "ytbgmlcakdkkfdaadoor", sum := "0f3a9f22c6374f93926db039d6781aa47c2388fb62a8b899eb6566ee4cfe9882", func := "placket/placketlaw06.SparseOrder", spec := "sparseOrder", named := ["math/bits.deBruijn32tab"], apart := false, laid := [("math/bits.deBruijn32tab", laid_math_bits_deBruijn32tab)], narrowed := true }
def SparseOrderUptoSaid : Prop := sparseOrderUptoRow.holds Tryd.pinned (OpenSpec.upto sparseOrderSpec)

/-- 'placketlaw06.SparseWalks', WHERE WHAT IT READS IS OF BULK AT MOST 1048576: true; the input reads as it did. -/
def sparseWalksUptoRow : OpenClaim := { program := "ytbgmlcakdkkfdaadoor", sum := "0f3a9f22c6374f93926db039d6781aa47c2388fb62a8b899eb6566ee4cfe9882", func := "placket/placketlaw06.SparseWalks", spec := "sparseWalks", unfollowed := true, recurses := true, named := ["math/bits.deBruijn32tab"], apart := false, laid := [("math/bits.deBruijn32tab", laid_math_bits_deBruijn32tab)], narrowed := true }
def SparseWalksUptoSaid : Prop := sparseWalksUptoRow.holds Tryd.pinned (OpenSpec.upto sparseWalksSpec)

/-- 'placketlaw06.SparseMaps', WHERE WHAT IT READS IS OF BULK AT MOST 1048576: true; the input reads as it did. -/
def sparseMapsUptoRow : OpenClaim := { program := "ytbgmlcakdkkfdaadoor", sum := "0f3a9f22c6374f93926db039d6781aa47c2388fb62a8b899eb6566ee4cfe9882", func := "placket/placketlaw06.SparseMaps", spec := "sparseMaps", unfollowed := true, recurses := true, named := ["math/bits.deBruijn32tab"], apart := false, laid := [("math/bits.deBruijn32tab", laid_math_bits_deBruijn32tab)], narrowed := true }
def SparseMapsUptoSaid : Prop := sparseMapsUptoRow.holds Tryd.pinned (OpenSpec.upto sparseMapsSpec)

end Rows
end Go.Proofs.YtbgmlcakdkkfdaaDoor
