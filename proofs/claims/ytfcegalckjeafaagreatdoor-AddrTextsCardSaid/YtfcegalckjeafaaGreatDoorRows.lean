/-
  NARROWER THAN 'FOR EVERY INPUT', by the rows' own cells (each row's printed sentence says how): AddrOwn: loops, laid · AddrTold: laid · AddrAll: loops, laid · AddrBegins: laid · AddrTexts: laid · AddrBack: loops, laid · AddrGets: loops, laid · AddrDoes: loops, laid.
  DERIVED. THE GIVEN ROWS OF THIS SEAT. 8 by the template 'for every input the law returns true; each argument reads behind the call as it read before'; 0 by the template 'total and deterministic' (their statements: YtfcegalckjeafaaGreatDoorTotals.lean).
  GIVEN WITH THE SEED: the statements are not yours to turn. If you find one false, say at which input.
  Laid BY PROGRAM, IN A SANDBOX (cutbox-rows.mjs): the forced cells as the released guide's own fill.sh prints them over the translation 4b7832ffe5150abb… (all of the seat's roots in one cut). By AI agents, Wed Nov 11 2026. No macro, syntax, notation, axiom, sorry.
-/
import Derived.Test.YtfcegalckjeafaaGreatDoorChecked
import GoSem.Claim
import GoSem.ClaimJoined
import GoSem.ClaimMapViews
import Derived.JoinedTies
import Derived.KernelRfl
namespace Go.Proofs.YtfcegalckjeafaaGreatDoor
/- THE CELL 'sum', in the pinned program and in every row, IS THE sha256 OF THE DUMP (.gsa) THAT YtfcegalckjeafaaGreatDoorProg.lean LOADS. Nothing in Lean hashes anything: it is a label: what it is worth is what the hold of that sum in a sandbox is worth. -/
noncomputable def Tryz.pinned : Pinned := { name := "ytfcegalckjeafaagreatdoor", sum := "4b7832ffe5150abb32171a05834a6ef94b3cf443b62494cb968930d34cfbfbbb", checked := Tryz.checked }
namespace Rows
def none {H : Type} : Left H := { results := [], args := [] }

/- WHAT THE LISTED PACKAGE-LEVEL VARIABLES READ AS WHEN THE CALL BEGINS. Each datum BY PROGRAM (the guide's laid-datum.mjs) off the statement by which the dump's own 'gosem.cut.vars' lays the variable. In a bare row this is a premise. The card (YtfcegalckjeafaaGreatDoorCards.lean) ties it to the program's text. -/
def laid_math_bits_deBruijn32tab {H : Type} : DataW H := .agg [.lit (.int .u8 0), .lit (.int .u8 1), .lit (.int .u8 28), .lit (.int .u8 2), .lit (.int .u8 29), .lit (.int .u8 14), .lit (.int .u8 24), .lit (.int .u8 3), .lit (.int .u8 30), .lit (.int .u8 22), .lit (.int .u8 20), .lit (.int .u8 15), .lit (.int .u8 25), .lit (.int .u8 17), .lit (.int .u8 4), .lit (.int .u8 8), .lit (.int .u8 31), .lit (.int .u8 27), .lit (.int .u8 13), .lit (.int .u8 23), .lit (.int .u8 21), .lit (.int .u8 19), .lit (.int .u8 16), .lit (.int .u8 7), .lit (.int .u8 26), .lit (.int .u8 12), .lit (.int .u8 18), .lit (.int .u8 6), .lit (.int .u8 11), .lit (.int .u8 5), .lit (.int .u8 10), .lit (.int .u8 9)]
def laid_placket_lex_signs {H : Type} : DataW H := .agg [.lit (.string [46, 46]), .lit (.string [61, 61]), .lit (.string [33, 61]), .lit (.string [60, 61]), .lit (.string [62, 61]), .lit (.string [38, 38]), .lit (.string [124, 124]), .lit (.string [91]), .lit (.string [93]), .lit (.string [123]), .lit (.string [125]), .lit (.string [60]), .lit (.string [62]), .lit (.string [40]), .lit (.string [41]), .lit (.string [44]), .lit (.string [58]), .lit (.string [46]), .lit (.string [42]), .lit (.string [63]), .lit (.string [33]), .lit (.string [36]), .lit (.string [64])]
def laid_errors_errorType {H : Type} : DataW H := .iface "internal/reflectlite.rtype" (.agg [.ptr (.lit (.string [101, 114, 114, 111, 114]))])

/-- 'placketlaw15.AddrOwn': WHATEVER THE INPUT: true; the input reads as it did. -/
def addrOwnSpec : ChangeSpec := { name := "addrOwn", fn := fun _ => fun
  | [d1, d2, d3] => { results := [.lit (.bool true)], args := [d1, d2, d3] }
  | _ => none }
def addrOwnRow : OpenClaim := { program := "ytfcegalckjeafaagreatdoor", sum := "4b7832ffe5150abb32171a05834a6ef94b3cf443b62494cb968930d34cfbfbbb", func := "placket/placketlaw15.AddrOwn", spec := "addrOwn", inPlace := ["slices.overlaps[placket/hamt.pair[placket/value.Value]]"], unfollowed := true, recurses := true, named := ["math/bits.deBruijn32tab", "placket/lex.signs"], loops := true, apart := false, laid := [("math/bits.deBruijn32tab", laid_math_bits_deBruijn32tab), ("placket/lex.signs", laid_placket_lex_signs)] }
def AddrOwnSaid : Prop := addrOwnRow.holds Tryz.pinned (OpenSpec.ofChange addrOwnSpec)

/-- ITS FALSE NEIGHBOUR: 'it returns false'. Refute it at one input. -/
def addrOwnWrong : ChangeSpec := { name := "addrOwn", fn := fun _ => fun
  | [d1, d2, d3] => { results := [.lit (.bool false)], args := [d1, d2, d3] }
  | _ => none }
def AddrOwnWrongFalsely : Prop := addrOwnRow.holds Tryz.pinned (OpenSpec.ofChange addrOwnWrong)

/-- 'placketlaw15.AddrTold': WHATEVER THE INPUT: true; the input reads as it did. -/
def addrToldSpec : ChangeSpec := { name := "addrTold", fn := fun _ => fun
  | [d] => { results := [.lit (.bool true)], args := [d] }
  | _ => none }
def addrToldRow : OpenClaim := { program := "ytfcegalckjeafaagreatdoor", sum := "4b7832ffe5150abb32171a05834a6ef94b3cf443b62494cb968930d34cfbfbbb", func := "placket/placketlaw15.AddrTold", spec := "addrTold", inPlace := ["slices.overlaps[placket/hamt.pair[placket/value.Value]]"], unfollowed := true, recurses := true, named := ["math/bits.deBruijn32tab", "placket/lex.signs"], apart := false, laid := [("math/bits.deBruijn32tab", laid_math_bits_deBruijn32tab), ("placket/lex.signs", laid_placket_lex_signs)] }
def AddrToldSaid : Prop := addrToldRow.holds Tryz.pinned (OpenSpec.ofChange addrToldSpec)

/-- ITS FALSE NEIGHBOUR: 'it returns false'. Refute it at one input. -/
def addrToldWrong : ChangeSpec := { name := "addrTold", fn := fun _ => fun
  | [d] => { results := [.lit (.bool false)], args := [d] }
  | _ => none }
def AddrToldWrongFalsely : Prop := addrToldRow.holds Tryz.pinned (OpenSpec.ofChange addrToldWrong)

/-- 'placketlaw15.AddrAll': WHATEVER THE INPUT: true; the input reads as it did. -/
def addrAllSpec : ChangeSpec := { name := "addrAll", fn := fun _ => fun
  | [d1, d2] => { results := [.lit (.bool true)], args := [d1, d2] }
  | _ => none }
def addrAllRow : OpenClaim := { program := "ytfcegalckjeafaagreatdoor", sum := "4b7832ffe5150abb32171a05834a6ef94b3cf443b62494cb968930d34cfbfbbb", func := "placket/placketlaw15.AddrAll", spec := "addrAll", inPlace := ["slices.overlaps[placket/hamt.pair[placket/value.Value]]"], unfollowed := true, recurses := true, named := ["math/bits.deBruijn32tab", "placket/lex.signs"], loops := true, apart := false, laid := [("math/bits.deBruijn32tab", laid_math_bits_deBruijn32tab), ("placket/lex.signs", laid_placket_lex_signs)] }
def AddrAllSaid : Prop := addrAllRow.holds Tryz.pinned (OpenSpec.ofChange addrAllSpec)

/-- ITS FALSE NEIGHBOUR: 'it returns false'. Refute it at one input. -/
def addrAllWrong : ChangeSpec := { name := "addrAll", fn := fun _ => fun
  | [d1, d2] => { results := [.lit (.bool false)], args := [d1, d2] }
  | _ => none }
def AddrAllWrongFalsely : Prop := addrAllRow.holds Tryz.pinned (OpenSpec.ofChange addrAllWrong)

/-- 'placketlaw15.AddrBegins': WHATEVER THE INPUT: true; the input reads as it did. -/
def addrBeginsSpec : ChangeSpec := { name := "addrBegins", fn := fun _ => fun
  | [d1, d2, d3] => { results := [.lit (.bool true)], args := [d1, d2, d3] }
  | _ => none }
def addrBeginsRow : OpenClaim := { program := "ytfcegalckjeafaagreatdoor", sum := "4b7832ffe5150abb32171a05834a6ef94b3cf443b62494cb968930d34cfbfbbb", func := "placket/placketlaw15.AddrBegins", spec := "addrBegins", inPlace := ["slices.overlaps[placket/hamt.pair[placket/value.Value]]"], unfollowed := true, recurses := true, named := ["math/bits.deBruijn32tab", "placket/lex.signs"], apart := false, laid := [("math/bits.deBruijn32tab", laid_math_bits_deBruijn32tab), ("placket/lex.signs", laid_placket_lex_signs)] }
def AddrBeginsSaid : Prop := addrBeginsRow.holds Tryz.pinned (OpenSpec.ofChange addrBeginsSpec)

/-- ITS FALSE NEIGHBOUR: 'it returns false'. Refute it at one input. -/
def addrBeginsWrong : ChangeSpec := { name := "addrBegins", fn := fun _ => fun
  | [d1, d2, d3] => { results := [.lit (.bool false)], args := [d1, d2, d3] }
  | _ => none }
def AddrBeginsWrongFalsely : Prop := addrBeginsRow.holds Tryz.pinned (OpenSpec.ofChange addrBeginsWrong)

/-- 'placketlaw15.AddrTexts': WHATEVER THE INPUT: true; the input reads as it did. -/
def addrTextsSpec : ChangeSpec := { name := "addrTexts", fn := fun _ => fun
  | [d1, d2] => { results := [.lit (.bool true)], args := [d1, d2] }
  | _ => none }
def addrTextsRow : OpenClaim := { program := "ytfcegalckjeafaagreatdoor", sum := "4b7832ffe5150abb32171a05834a6ef94b3cf443b62494cb968930d34cfbfbbb", func := "placket/placketlaw15.AddrTexts", spec := "addrTexts", inPlace := ["slices.overlaps[placket/hamt.pair[placket/value.Value]]", "internal/reflectlite.ValueOf", "(internal/reflectlite.Value).Type", "(internal/reflectlite.Value).IsNil", "internal/reflectlite.TypeOf", "(internal/reflectlite.Value).Elem", "(internal/reflectlite.Value).Set"], unfollowed := true, recurses := true, named := ["math/bits.deBruijn32tab", "placket/lex.signs", "errors.errorType"], apart := false, laid := [("math/bits.deBruijn32tab", laid_math_bits_deBruijn32tab), ("errors.errorType", laid_errors_errorType), ("placket/lex.signs", laid_placket_lex_signs)] }
def AddrTextsSaid : Prop := addrTextsRow.holds Tryz.pinned (OpenSpec.ofChange addrTextsSpec)

/-- ITS FALSE NEIGHBOUR: 'it returns false'. Refute it at one input. -/
def addrTextsWrong : ChangeSpec := { name := "addrTexts", fn := fun _ => fun
  | [d1, d2] => { results := [.lit (.bool false)], args := [d1, d2] }
  | _ => none }
def AddrTextsWrongFalsely : Prop := addrTextsRow.holds Tryz.pinned (OpenSpec.ofChange addrTextsWrong)

/-- 'placketlaw15.AddrBack': WHATEVER THE INPUT: true; the input reads as it did. -/
def addrBackSpec : ChangeSpec := { name := "addrBack", fn := fun _ => fun
  | [d1, d2, d3, d4] => { results := [.lit (.bool true)], args := [d1, d2, d3, d4] }
  | _ => none }
def addrBackRow : OpenClaim := { program := "ytfcegalckjeafaagreatdoor", sum := "4b7832ffe5150abb32171a05834a6ef94b3cf443b62494cb968930d34cfbfbbb", func := "placket/placketlaw15.AddrBack", spec := "addrBack", inPlace := ["slices.overlaps[placket/hamt.pair[placket/value.Value]]"], unfollowed := true, recurses := true, named := ["math/bits.deBruijn32tab", "placket/lex.signs"], loops := true, apart := false, laid := [("math/bits.deBruijn32tab", laid_math_bits_deBruijn32tab), ("placket/lex.signs", laid_placket_lex_signs)] }
def AddrBackSaid : Prop := addrBackRow.holds Tryz.pinned (OpenSpec.ofChange addrBackSpec)

/-- ITS FALSE NEIGHBOUR: 'it returns false'. Refute it at one input. -/
def addrBackWrong : ChangeSpec := { name := "addrBack", fn := fun _ => fun
  | [d1, d2, d3, d4] => { results := [.lit (.bool false)], args := [d1, d2, d3, d4] }
  | _ => none }
def AddrBackWrongFalsely : Prop := addrBackRow.holds Tryz.pinned (OpenSpec.ofChange addrBackWrong)

/-- 'placketlaw15.AddrGets': WHATEVER THE INPUT: true; the input reads as it did. -/
def addrGetsSpec : ChangeSpec := { name := "addrGets", fn := fun _ => fun
  | [d1, d2, d3] => { results := [.lit (.bool true)], args := [d1, d2, d3] }
  | _ => none }
def addrGetsRow : OpenClaim := { program := "ytfcegalckjeafaagreatdoor", sum := "4b7832ffe5150abb32171a05834a6ef94b3cf443b62494cb968930d34cfbfbbb", func := "placket/placketlaw15.AddrGets", spec := "addrGets", inPlace := ["slices.overlaps[placket/hamt.pair[placket/value.Value]]", "internal/reflectlite.ValueOf", "(internal/reflectlite.Value).Type", "(internal/reflectlite.Value).IsNil", "internal/reflectlite.TypeOf", "(internal/reflectlite.Value).Elem", "(internal/reflectlite.Value).Set"], unfollowed := true, recurses := true, named := ["math/bits.deBruijn32tab", "placket/lex.signs", "errors.errorType"], loops := true, apart := false, laid := [("math/bits.deBruijn32tab", laid_math_bits_deBruijn32tab), ("errors.errorType", laid_errors_errorType), ("placket/lex.signs", laid_placket_lex_signs)] }
def AddrGetsSaid : Prop := addrGetsRow.holds Tryz.pinned (OpenSpec.ofChange addrGetsSpec)

/-- ITS FALSE NEIGHBOUR: 'it returns false'. Refute it at one input. -/
def addrGetsWrong : ChangeSpec := { name := "addrGets", fn := fun _ => fun
  | [d1, d2, d3] => { results := [.lit (.bool false)], args := [d1, d2, d3] }
  | _ => none }
def AddrGetsWrongFalsely : Prop := addrGetsRow.holds Tryz.pinned (OpenSpec.ofChange addrGetsWrong)

/-- 'placketlaw15.AddrDoes': WHATEVER THE INPUT: true; the input reads as it did. -/
def addrDoesSpec : ChangeSpec := { name := "addrDoes", fn := fun _ => fun
  | [d1, d2, d3, d4, d5, d6] => { results := [.lit (.bool true)], args := [d1, d2, d3, d4, d5, d6] }
  | _ => none }
def addrDoesRow : OpenClaim := { program := "ytfcegalckjeafaagreatdoor", sum := "4b7832ffe5150abb32171a05834a6ef94b3cf443b62494cb968930d34cfbfbbb", func := "placket/placketlaw15.AddrDoes", spec := "addrDoes", inPlace := ["slices.overlaps[placket/hamt.pair[placket/value.Value]]", "internal/reflectlite.ValueOf", "(internal/reflectlite.Value).Type", "(internal/reflectlite.Value).IsNil", "internal/reflectlite.TypeOf", "(internal/reflectlite.Value).Elem", "(internal/reflectlite.Value).Set"], unfollowed := true, recurses := true, named := ["math/bits.deBruijn32tab", "placket/lex.signs", "errors.errorType"], loops := true, apart := false, laid := [("math/bits.deBruijn32tab", laid_math_bits_deBruijn32tab), ("errors.errorType", laid_errors_errorType), ("placket/lex.signs", laid_placket_lex_signs)] }
def AddrDoesSaid : Prop := addrDoesRow.holds Tryz.pinned (OpenSpec.ofChange addrDoesSpec)

/-- ITS FALSE NEIGHBOUR: 'it returns false'. Refute it at one input. -/
def addrDoesWrong : ChangeSpec := { name := "addrDoes", fn := fun _ => fun
  | [d1, d2, d3, d4, d5, d6] => { results := [.lit (.bool false)], args := [d1, d2, d3, d4, d5, d6] }
  | _ => none }
def AddrDoesWrongFalsely : Prop := addrDoesRow.holds Tryz.pinned (OpenSpec.ofChange addrDoesWrong)

/- THE SECOND FORM. 'bulk': how many values and letters a reading holds, each counted each time it is reached (what is shared counts as often as it is met; a slice's spare places count too). A statement '..UptoSaid' is the law's where the arguments, and the package variables that the reading takes, are together of bulk at most 1048576: NARROWER than '..Said'. Prove '..Said' where nothing that the law and all that it calls make is longer than what came in: it says more and counts as full. Else prove '..UptoSaid'. A law counts once. -/
mutual
def uptoBulk {H : Type} : DataW H → Nat
  | .lit (.string bytes) => bytes.length + 1
  | .lit _ => 1
  | .nil => 1
  | .ptr d => uptoBulk d + 1
  | .slice elems spare => uptoBulkAll elems + uptoBulkAll spare + 1
  | .agg parts => uptoBulkAll parts + 1
  | .iface _ d => uptoBulk d + 1
  | .map entries => uptoBulkEntries entries + 1
  | .held _ => 1
def uptoBulkAll {H : Type} : List (DataW H) → Nat
  | [] => 0
  | d :: r => uptoBulk d + uptoBulkAll r
def uptoBulkEntries {H : Type} : List (Lit × DataW H) → Nat
  | [] => 0
  | x :: r => uptoBulkEntry x + uptoBulkEntries r
def uptoBulkEntry {H : Type} : Lit × DataW H → Nat
  | (.string bytes, d) => bytes.length + uptoBulk d + 1
  | (_, d) => uptoBulk d + 1
 end
def uptoSmall : (H : Type) → List (DataW H) → Bool := fun _ ds => decide (uptoBulkAll ds ≤ 1048576)
def OpenSpec.upto (s : _root_.Go.ChangeSpec) : _root_.Go.OpenSpec := { _root_.Go.OpenSpec.ofChange s with cond := some uptoSmall }

/-- 'placketlaw15.AddrOwn', WHERE WHAT IT READS IS OF BULK AT MOST 1048576: true; the input reads as it did. -/
def addrOwnUptoRow : OpenClaim := { program := "ytfcegalckjeafaagreatdoor", sum := "4b7832ffe5150abb32171a05834a6ef94b3cf443b62494cb968930d34cfbfbbb", func := "placket/placketlaw15.AddrOwn", spec := "addrOwn", inPlace := ["slices.overlaps[placket/hamt.pair[placket/value.Value]]"], unfollowed := true, recurses := true, named := ["math/bits.deBruijn32tab", "placket/lex.signs"], loops := true, apart := false, laid := [("math/bits.deBruijn32tab", laid_math_bits_deBruijn32tab), ("placket/lex.signs", laid_placket_lex_signs)], narrowed := true }
def AddrOwnUptoSaid : Prop := addrOwnUptoRow.holds Tryz.pinned (OpenSpec.upto addrOwnSpec)

/-- 'placketlaw15.AddrTold', WHERE WHAT IT READS IS OF BULK AT MOST 1048576: true; the input reads as it did. -/
def addrToldUptoRow : OpenClaim := { program := "ytfcegalckjeafaagreatdoor", sum := "4b7832ffe5150abb32171a05834a6ef94b3cf443b62494cb968930d34cfbfbbb", func := "placket/placketlaw15.AddrTold", spec := "addrTold", inPlace := ["slices.overlaps[placket/hamt.pair[placket/value.Value]]"], unfollowed := true, recurses := true, named := ["math/bits.deBruijn32tab", "placket/lex.signs"], apart := false, laid := [("math/bits.deBruijn32tab", laid_math_bits_deBruijn32tab), ("placket/lex.signs", laid_placket_lex_signs)], narrowed := true }
def AddrToldUptoSaid : Prop := addrToldUptoRow.holds Tryz.pinned (OpenSpec.upto addrToldSpec)

/-- 'placketlaw15.AddrAll', WHERE WHAT IT READS IS OF BULK AT MOST 1048576: true; the input reads as it did. -/
def addrAllUptoRow : OpenClaim := { program := "ytfcegalckjeafaagreatdoor", sum := "4b7832ffe5150abb32171a05834a6ef94b3cf443b62494cb968930d34cfbfbbb", func := "placket/placketlaw15.AddrAll", spec := "addrAll", inPlace := ["slices.overlaps[placket/hamt.pair[placket/value.Value]]"], unfollowed := true, recurses := true, named := ["math/bits.deBruijn32tab", "placket/lex.signs"], loops := true, apart := false, laid := [("math/bits.deBruijn32tab", laid_math_bits_deBruijn32tab), ("placket/lex.signs", laid_placket_lex_signs)], narrowed := true }
def AddrAllUptoSaid : Prop := addrAllUptoRow.holds Tryz.pinned (OpenSpec.upto addrAllSpec)

/-- 'placketlaw15.AddrBegins', WHERE WHAT IT READS IS OF BULK AT MOST 1048576: true; the input reads as it did. -/
def addrBeginsUptoRow : OpenClaim := { program := "ytfcegalckjeafaagreatdoor", sum := "4b7832ffe5150abb32171a05834a6ef94b3cf443b62494cb968930d34cfbfbbb", func := "placket/placketlaw15.AddrBegins", spec := "addrBegins", inPlace := ["slices.overlaps[placket/hamt.pair[placket/value.Value]]"], unfollowed := true, recurses := true, named := ["math/bits.deBruijn32tab", "placket/lex.signs"], apart := false, laid := [("math/bits.deBruijn32tab", laid_math_bits_deBruijn32tab), ("placket/lex.signs", laid_placket_lex_signs)], narrowed := true }
def AddrBeginsUptoSaid : Prop := addrBeginsUptoRow.holds Tryz.pinned (OpenSpec.upto addrBeginsSpec)

/-- 'placketlaw15.AddrTexts', WHERE WHAT IT READS IS OF BULK AT MOST 1048576: true; the input reads as it did. -/
def addrTextsUptoRow : OpenClaim := { program := "ytfcegalckjeafaagreatdoor", sum := "4b7832ffe5150abb32171a05834a6ef94b3cf443b62494cb968930d34cfbfbbb", func := "placket/placketlaw15.AddrTexts", spec := "addrTexts", inPlace := ["slices.overlaps[placket/hamt.pair[placket/value.Value]]", "internal/reflectlite.ValueOf", "(internal/reflectlite.Value).Type", "(internal/reflectlite.Value).IsNil", "internal/reflectlite.TypeOf", "(internal/reflectlite.Value).Elem", "(internal/reflectlite.Value).Set"], unfollowed := true, recurses := true, named := ["math/bits.deBruijn32tab", "placket/lex.signs", "errors.errorType"], apart := false, laid := [("math/bits.deBruijn32tab", laid_math_bits_deBruijn32tab), ("errors.errorType", laid_errors_errorType), ("placket/lex.signs", laid_placket_lex_signs)], narrowed := true }
def AddrTextsUptoSaid : Prop := addrTextsUptoRow.holds Tryz.pinned (OpenSpec.upto addrTextsSpec)

/-- 'placketlaw15.AddrBack', WHERE WHAT IT READS IS OF BULK AT MOST 1048576: true; the input reads as it did. -/
def addrBackUptoRow : OpenClaim := { program := "ytfcegalckjeafaagreatdoor", sum := "4b7832ffe5150abb32171a05834a6ef94b3cf443b62494cb968930d34cfbfbbb", func := "placket/placketlaw15.AddrBack", spec := "addrBack", inPlace := ["slices.overlaps[placket/hamt.pair[placket/value.Value]]"], unfollowed := true, recurses := true, named := ["math/bits.deBruijn32tab", "placket/lex.signs"], loops := true, apart := false, laid := [("math/bits.deBruijn32tab", laid_math_bits_deBruijn32tab), ("placket/lex.signs", laid_placket_lex_signs)], narrowed := true }
def AddrBackUptoSaid : Prop := addrBackUptoRow.holds Tryz.pinned (OpenSpec.upto addrBackSpec)

/-- 'placketlaw15.AddrGets', WHERE WHAT IT READS IS OF BULK AT MOST 1048576: true; the input reads as it did. -/
def addrGetsUptoRow : OpenClaim := { program := "ytfcegalckjeafaagreatdoor", sum := "4b7832ffe5150abb32171a05834a6ef94b3cf443b62494cb968930d34cfbfbbb", func := "placket/placketlaw15.AddrGets", spec := "addrGets", inPlace := ["slices.overlaps[placket/hamt.pair[placket/value.Value]]", "internal/reflectlite.ValueOf", "(internal/reflectlite.Value).Type", "(internal/reflectlite.Value).IsNil", "internal/reflectlite.TypeOf", "(internal/reflectlite.Value).Elem", "(internal/reflectlite.Value).Set"], unfollowed := true, recurses := true, named := ["math/bits.deBruijn32tab", "placket/lex.signs", "errors.errorType"], loops := true, apart := false, laid := [("math/bits.deBruijn32tab", laid_math_bits_deBruijn32tab), ("errors.errorType", laid_errors_errorType), ("placket/lex.signs", laid_placket_lex_signs)], narrowed := true }
def AddrGetsUptoSaid : Prop := addrGetsUptoRow.holds Tryz.pinned (OpenSpec.upto addrGetsSpec)

/-- 'placketlaw15.AddrDoes', WHERE WHAT IT READS IS OF BULK AT MOST 1048576: true; the input reads as it did. -/
def addrDoesUptoRow : OpenClaim := { program := "ytfcegalckjeafaagreatdoor", sum := "4b7832ffe5150abb32171a05834a6ef94b3cf443b62494cb968930d34cfbfbbb", func := "placket/placketlaw15.AddrDoes", spec := "addrDoes", inPlace := ["slices.overlaps[placket/hamt.pair[placket/value.Value]]", "internal/reflectlite.ValueOf", "(internal/reflectlite.Value).Type", "(internal/reflectlite.Value).IsNil", "internal/reflectlite.TypeOf", "(internal/reflectlite.Value).Elem", "(internal/reflectlite.Value).Set"], unfollowed := true, recurses := true, named := ["math/bits.deBruijn32tab", "placket/lex.signs", "errors.errorType"], loops := true, apart := false, laid := [("math/bits.deBruijn32tab", laid_math_bits_deBruijn32tab), ("errors.errorType", laid_errors_errorType), ("placket/lex.signs", laid_placket_lex_signs)], narrowed := true }
def AddrDoesUptoSaid : Prop := addrDoesUptoRow.holds Tryz.pinned (OpenSpec.upto addrDoesSpec)

end Rows
end Go.Proofs.YtfcegalckjeafaaGreatDoor
