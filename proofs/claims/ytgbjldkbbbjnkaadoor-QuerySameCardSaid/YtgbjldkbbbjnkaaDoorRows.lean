/-
  NARROWER THAN 'FOR EVERY INPUT', by the rows' own cells (each row's printed sentence says how): QueryWhere: laid · QueryJoins: loops, laid · QueryChecks: loops, laid · QueryPrints: loops, laid · QueryParses: laid · QuerySame: loops, laid · QueryBack: loops, laid · QueryOnly: laid · QueryCut: loops, laid.
  DERIVED. THE GIVEN ROWS OF THIS SEAT. 9 by the template 'for every input the law returns true; each argument reads behind the call as it read before'; 0 by the template 'total and deterministic' (their statements: YtgbjldkbbbjnkaaDoorTotals.lean).
  GIVEN WITH THE SEED: the statements are not yours to turn. If you find one false, say at which input.
  Laid BY PROGRAM, IN A SANDBOX (cutbox-rows.mjs): the forced cells as the released guide's own fill.sh prints them over the translation 3b9862b872e4fda8… (all of the seat's roots in one cut). By AI agents, Wed Nov 11 2026. No macro, syntax, notation, axiom, sorry.
-/
import Derived.Test.YtgbjldkbbbjnkaaDoorChecked
import GoSem.PinnedTables
import GoSem.Claim
import GoSem.ClaimJoined
import GoSem.ClaimMapViews
import Derived.JoinedTies
import Derived.KernelRfl
namespace Go.Proofs.YtgbjldkbbbjnkaaDoor
/- THE CELL 'sum', in the pinned program and in every row, IS THE sha256 OF THE DUMP (.gsa) THAT YtgbjldkbbbjnkaaDoorProg.lean LOADS. Nothing in Lean hashes anything: it is a label: what it is worth is what the hold of that sum in a sandbox is worth. -/
noncomputable def Tryd.pinned : Pinned := { name := "ytgbjldkbbbjnkaadoor", sum := "3b9862b872e4fda8309b9b7511c84af2aa43f171a07bdfe911ad7dfd7dac05c6", checked := Tryd.checked }
namespace Rows
def none {H : Type} : Left H := { results := [], args := [] }

/- WHAT THE LISTED PACKAGE-LEVEL VARIABLES READ AS WHEN THE CALL BEGINS. Each datum BY PROGRAM (the guide's laid-datum.mjs) off the statement by which the dump's own 'gosem.cut.vars' lays the variable. In a bare row this is a premise. The card (YtgbjldkbbbjnkaaDoorCards.lean) ties it to the program's text. -/
def laid_unicode_utf8_acceptRanges {H : Type} : DataW H := .agg [.agg [.lit (.int .u8 128), .lit (.int .u8 191)], .agg [.lit (.int .u8 160), .lit (.int .u8 191)], .agg [.lit (.int .u8 128), .lit (.int .u8 159)], .agg [.lit (.int .u8 144), .lit (.int .u8 191)], .agg [.lit (.int .u8 128), .lit (.int .u8 143)], .agg [.lit (.int .u8 0), .lit (.int .u8 0)], .agg [.lit (.int .u8 0), .lit (.int .u8 0)], .agg [.lit (.int .u8 0), .lit (.int .u8 0)], .agg [.lit (.int .u8 0), .lit (.int .u8 0)], .agg [.lit (.int .u8 0), .lit (.int .u8 0)], .agg [.lit (.int .u8 0), .lit (.int .u8 0)], .agg [.lit (.int .u8 0), .lit (.int .u8 0)], .agg [.lit (.int .u8 0), .lit (.int .u8 0)], .agg [.lit (.int .u8 0), .lit (.int .u8 0)], .agg [.lit (.int .u8 0), .lit (.int .u8 0)], .agg [.lit (.int .u8 0), .lit (.int .u8 0)]]
def laid_langdoc_query_roles {H : Type} : DataW H := .agg [.lit (.string [116, 101, 120, 116]), .lit (.string [119, 111, 114, 100]), .lit (.string [109, 111, 114, 112, 104]), .lit (.string [103, 108, 111, 115, 115]), .lit (.string [102, 114, 101, 101])]
def laid_langdoc_query_pairs {H : Type} : DataW H := .agg [.lit (.string []), .lit (.string [97, 110, 100]), .lit (.string [111, 114]), .lit (.string []), .lit (.string [116, 104, 101, 110]), .lit (.string [119, 105, 116, 104, 105, 110]), .lit (.string [104, 97, 115])]
/-- One of Go's own tables, pinned by name: the form's constant. -/
def laid_unicode_utf8_first : DataW Unit := Go.Pinned.utf8First

/-- 'langdoclaw35.QueryWhere': WHATEVER THE INPUT: true; the input reads as it did. -/
def queryWhereSpec : ChangeSpec := { name := "queryWhere", fn := fun _ => fun
  | [d1, d2] => { results := [.lit (.bool true)], args := [d1, d2] }
  | _ => none }
def queryWhereRow : OpenClaim := { program := "ytgbjldkbbbjnkaadoor", sum := "3b9862b872e4fda8309b9b7511c84af2aa43f171a07bdfe911ad7dfd7dac05c6", func := "langdoc/langdoclaw35.QueryWhere", spec := "queryWhere", inPlace := ["internal/abi.NoEscape", "internal/bytealg.CountString", "internal/bytealg.IndexByteString", "internal/bytealg.IndexString", "internal/bytealg.MakeNoZero"], unfollowed := true, recurses := true, named := ["langdoc/query.pairs", "unicode/utf8.first", "unicode/utf8.acceptRanges", "langdoc/query.roles", "internal/bytealg.MaxLen"], apart := false, laid := [("unicode/utf8.acceptRanges", laid_unicode_utf8_acceptRanges), ("langdoc/query.roles", laid_langdoc_query_roles), ("langdoc/query.pairs", laid_langdoc_query_pairs), ("unicode/utf8.first", laid_unicode_utf8_first)] }
def QueryWhereSaid : Prop := queryWhereRow.holds Tryd.pinned (OpenSpec.ofChange queryWhereSpec)

/-- ITS FALSE NEIGHBOUR: 'it returns false'. Refute it at one input. -/
def queryWhereWrong : ChangeSpec := { name := "queryWhere", fn := fun _ => fun
  | [d1, d2] => { results := [.lit (.bool false)], args := [d1, d2] }
  | _ => none }
def QueryWhereWrongFalsely : Prop := queryWhereRow.holds Tryd.pinned (OpenSpec.ofChange queryWhereWrong)

/-- 'langdoclaw35.QueryJoins': WHATEVER THE INPUT: true; the input reads as it did. -/
def queryJoinsSpec : ChangeSpec := { name := "queryJoins", fn := fun _ => fun
  | [d1, d2, d3] => { results := [.lit (.bool true)], args := [d1, d2, d3] }
  | _ => none }
def queryJoinsRow : OpenClaim := { program := "ytgbjldkbbbjnkaadoor", sum := "3b9862b872e4fda8309b9b7511c84af2aa43f171a07bdfe911ad7dfd7dac05c6", func := "langdoc/langdoclaw35.QueryJoins", spec := "queryJoins", inPlace := ["internal/abi.NoEscape", "internal/bytealg.CountString", "internal/bytealg.IndexByteString", "internal/bytealg.IndexString", "internal/bytealg.MakeNoZero"], unfollowed := true, recurses := true, named := ["langdoc/query.pairs", "unicode/utf8.first", "unicode/utf8.acceptRanges", "langdoc/query.roles", "internal/bytealg.MaxLen"], loops := true, apart := false, laid := [("unicode/utf8.acceptRanges", laid_unicode_utf8_acceptRanges), ("langdoc/query.roles", laid_langdoc_query_roles), ("langdoc/query.pairs", laid_langdoc_query_pairs), ("unicode/utf8.first", laid_unicode_utf8_first)] }
def QueryJoinsSaid : Prop := queryJoinsRow.holds Tryd.pinned (OpenSpec.ofChange queryJoinsSpec)

/-- ITS FALSE NEIGHBOUR: 'it returns false'. Refute it at one input. -/
def queryJoinsWrong : ChangeSpec := { name := "queryJoins", fn := fun _ => fun
  | [d1, d2, d3] => { results := [.lit (.bool false)], args := [d1, d2, d3] }
  | _ => none }
def QueryJoinsWrongFalsely : Prop := queryJoinsRow.holds Tryd.pinned (OpenSpec.ofChange queryJoinsWrong)

/-- 'langdoclaw35.QueryChecks': WHATEVER THE INPUT: true; the input reads as it did. -/
def queryChecksSpec : ChangeSpec := { name := "queryChecks", fn := fun _ => fun
  | [d] => { results := [.lit (.bool true)], args := [d] }
  | _ => none }
def queryChecksRow : OpenClaim := { program := "ytgbjldkbbbjnkaadoor", sum := "3b9862b872e4fda8309b9b7511c84af2aa43f171a07bdfe911ad7dfd7dac05c6", func := "langdoc/langdoclaw35.QueryChecks", spec := "queryChecks", inPlace := ["internal/abi.NoEscape", "internal/bytealg.CountString", "internal/bytealg.IndexByteString", "internal/bytealg.IndexString", "internal/bytealg.MakeNoZero"], unfollowed := true, recurses := true, named := ["langdoc/query.pairs", "unicode/utf8.first", "unicode/utf8.acceptRanges", "langdoc/query.roles", "internal/bytealg.MaxLen"], loops := true, apart := false, laid := [("unicode/utf8.acceptRanges", laid_unicode_utf8_acceptRanges), ("langdoc/query.roles", laid_langdoc_query_roles), ("langdoc/query.pairs", laid_langdoc_query_pairs), ("unicode/utf8.first", laid_unicode_utf8_first)] }
def QueryChecksSaid : Prop := queryChecksRow.holds Tryd.pinned (OpenSpec.ofChange queryChecksSpec)

/-- ITS FALSE NEIGHBOUR: 'it returns false'. Refute it at one input. -/
def queryChecksWrong : ChangeSpec := { name := "queryChecks", fn := fun _ => fun
  | [d] => { results := [.lit (.bool false)], args := [d] }
  | _ => none }
def QueryChecksWrongFalsely : Prop := queryChecksRow.holds Tryd.pinned (OpenSpec.ofChange queryChecksWrong)

/-- 'langdoclaw35.QueryPrints': WHATEVER THE INPUT: true; the input reads as it did. -/
def queryPrintsSpec : ChangeSpec := { name := "queryPrints", fn := fun _ => fun
  | [d] => { results := [.lit (.bool true)], args := [d] }
  | _ => none }
def queryPrintsRow : OpenClaim := { program := "ytgbjldkbbbjnkaadoor", sum := "3b9862b872e4fda8309b9b7511c84af2aa43f171a07bdfe911ad7dfd7dac05c6", func := "langdoc/langdoclaw35.QueryPrints", spec := "queryPrints", inPlace := ["internal/abi.NoEscape", "internal/bytealg.CountString", "internal/bytealg.IndexByteString", "internal/bytealg.IndexString", "internal/bytealg.MakeNoZero"], unfollowed := true, recurses := true, named := ["langdoc/query.pairs", "unicode/utf8.first", "unicode/utf8.acceptRanges", "langdoc/query.roles", "internal/bytealg.MaxLen"], loops := true, apart := false, laid := [("unicode/utf8.acceptRanges", laid_unicode_utf8_acceptRanges), ("langdoc/query.roles", laid_langdoc_query_roles), ("langdoc/query.pairs", laid_langdoc_query_pairs), ("unicode/utf8.first", laid_unicode_utf8_first)] }
def QueryPrintsSaid : Prop := queryPrintsRow.holds Tryd.pinned (OpenSpec.ofChange queryPrintsSpec)

/-- ITS FALSE NEIGHBOUR: 'it returns false'. Refute it at one input. -/
def queryPrintsWrong : ChangeSpec := { name := "queryPrints", fn := fun _ => fun
  | [d] => { results := [.lit (.bool false)], args := [d] }
  | _ => none }
def QueryPrintsWrongFalsely : Prop := queryPrintsRow.holds Tryd.pinned (OpenSpec.ofChange queryPrintsWrong)

/-- 'langdoclaw35.QueryParses': WHATEVER THE INPUT: true; the input reads as it did. -/
def queryParsesSpec : ChangeSpec := { name := "queryParses", fn := fun _ => fun
  | [d] => { results := [.lit (.bool true)], args := [d] }
  | _ => none }
def queryParsesRow : OpenClaim := { program := "ytgbjldkbbbjnkaadoor", sum := "3b9862b872e4fda8309b9b7511c84af2aa43f171a07bdfe911ad7dfd7dac05c6", func := "langdoc/langdoclaw35.QueryParses", spec := "queryParses", inPlace := ["internal/abi.NoEscape", "internal/bytealg.CountString", "internal/bytealg.IndexByteString", "internal/bytealg.IndexString", "internal/bytealg.MakeNoZero"], unfollowed := true, recurses := true, named := ["langdoc/query.pairs", "unicode/utf8.first", "unicode/utf8.acceptRanges", "langdoc/query.roles", "internal/bytealg.MaxLen"], apart := false, laid := [("unicode/utf8.acceptRanges", laid_unicode_utf8_acceptRanges), ("langdoc/query.roles", laid_langdoc_query_roles), ("langdoc/query.pairs", laid_langdoc_query_pairs), ("unicode/utf8.first", laid_unicode_utf8_first)] }
def QueryParsesSaid : Prop := queryParsesRow.holds Tryd.pinned (OpenSpec.ofChange queryParsesSpec)

/-- ITS FALSE NEIGHBOUR: 'it returns false'. Refute it at one input. -/
def queryParsesWrong : ChangeSpec := { name := "queryParses", fn := fun _ => fun
  | [d] => { results := [.lit (.bool false)], args := [d] }
  | _ => none }
def QueryParsesWrongFalsely : Prop := queryParsesRow.holds Tryd.pinned (OpenSpec.ofChange queryParsesWrong)

/-- 'langdoclaw35.QuerySame': WHATEVER THE INPUT: true; the input reads as it did. -/
def querySameSpec : ChangeSpec := { name := "querySame", fn := fun _ => fun
  | [d1, d2] => { results := [.lit (.bool true)], args := [d1, d2] }
  | _ => none }
def querySameRow : OpenClaim := { program := "ytgbjldkbbbjnkaadoor", sum := "3b9862b872e4fda8309b9b7511c84af2aa43f171a07bdfe911ad7dfd7dac05c6", func := "langdoc/langdoclaw35.QuerySame", spec := "querySame", inPlace := ["internal/abi.NoEscape", "internal/bytealg.CountString", "internal/bytealg.IndexByteString", "internal/bytealg.IndexString", "internal/bytealg.MakeNoZero"], unfollowed := true, recurses := true, named := ["langdoc/query.pairs", "unicode/utf8.first", "unicode/utf8.acceptRanges", "langdoc/query.roles", "internal/bytealg.MaxLen"], loops := true, apart := false, laid := [("unicode/utf8.acceptRanges", laid_unicode_utf8_acceptRanges), ("langdoc/query.roles", laid_langdoc_query_roles), ("langdoc/query.pairs", laid_langdoc_query_pairs), ("unicode/utf8.first", laid_unicode_utf8_first)] }
def QuerySameSaid : Prop := querySameRow.holds Tryd.pinned (OpenSpec.ofChange querySameSpec)

/-- ITS FALSE NEIGHBOUR: 'it returns false'. Refute it at one input. -/
def querySameWrong : ChangeSpec := { name := "querySame", fn := fun _ => fun
  | [d1, d2] => { results := [.lit (.bool false)], args := [d1, d2] }
  | _ => none }
def QuerySameWrongFalsely : Prop := querySameRow.holds Tryd.pinned (OpenSpec.ofChange querySameWrong)

/-- 'langdoclaw35.QueryBack': WHATEVER THE INPUT: true; the input reads as it did. -/
def queryBackSpec : ChangeSpec := { name := "queryBack", fn := fun _ => fun
  | [d] => { results := [.lit (.bool true)], args := [d] }
  | _ => none }
def queryBackRow : OpenClaim := { program := "ytgbjldkbbbjnkaadoor", sum := "3b9862b872e4fda8309b9b7511c84af2aa43f171a07bdfe911ad7dfd7dac05c6", func := "langdoc/langdoclaw35.QueryBack", spec := "queryBack", inPlace := ["internal/abi.NoEscape", "internal/bytealg.CountString", "internal/bytealg.IndexByteString", "internal/bytealg.IndexString", "internal/bytealg.MakeNoZero"], unfollowed := true, recurses := true, named := ["langdoc/query.pairs", "unicode/utf8.first", "unicode/utf8.acceptRanges", "langdoc/query.roles", "internal/bytealg.MaxLen"], loops := true, apart := false, laid := [("unicode/utf8.acceptRanges", laid_unicode_utf8_acceptRanges), ("langdoc/query.roles", laid_langdoc_query_roles), ("langdoc/query.pairs", laid_langdoc_query_pairs), ("unicode/utf8.first", laid_unicode_utf8_first)] }
def QueryBackSaid : Prop := queryBackRow.holds Tryd.pinned (OpenSpec.ofChange queryBackSpec)

/-- ITS FALSE NEIGHBOUR: 'it returns false'. Refute it at one input. -/
def queryBackWrong : ChangeSpec := { name := "queryBack", fn := fun _ => fun
  | [d] => { results := [.lit (.bool false)], args := [d] }
  | _ => none }
def QueryBackWrongFalsely : Prop := queryBackRow.holds Tryd.pinned (OpenSpec.ofChange queryBackWrong)

/-- 'langdoclaw35.QueryOnly': WHATEVER THE INPUT: true; the input reads as it did. -/
def queryOnlySpec : ChangeSpec := { name := "queryOnly", fn := fun _ => fun
  | [d] => { results := [.lit (.bool true)], args := [d] }
  | _ => none }
def queryOnlyRow : OpenClaim := { program := "ytgbjldkbbbjnkaadoor", sum := "3b9862b872e4fda8309b9b7511c84af2aa43f171a07bdfe911ad7dfd7dac05c6", func := "langdoc/langdoclaw35.QueryOnly", spec := "queryOnly", inPlace := ["internal/abi.NoEscape", "internal/bytealg.CountString", "internal/bytealg.IndexByteString", "internal/bytealg.IndexString", "internal/bytealg.MakeNoZero"], unfollowed := true, recurses := true, named := ["langdoc/query.pairs", "unicode/utf8.first", "unicode/utf8.acceptRanges", "langdoc/query.roles", "internal/bytealg.MaxLen"], apart := false, laid := [("unicode/utf8.acceptRanges", laid_unicode_utf8_acceptRanges), ("langdoc/query.roles", laid_langdoc_query_roles), ("langdoc/query.pairs", laid_langdoc_query_pairs), ("unicode/utf8.first", laid_unicode_utf8_first)] }
def QueryOnlySaid : Prop := queryOnlyRow.holds Tryd.pinned (OpenSpec.ofChange queryOnlySpec)

/-- ITS FALSE NEIGHBOUR: 'it returns false'. Refute it at one input. -/
def queryOnlyWrong : ChangeSpec := { name := "queryOnly", fn := fun _ => fun
  | [d] => { results := [.lit (.bool false)], args := [d] }
  | _ => none }
def QueryOnlyWrongFalsely : Prop := queryOnlyRow.holds Tryd.pinned (OpenSpec.ofChange queryOnlyWrong)

/-- 'langdoclaw35.QueryCut': WHATEVER THE INPUT: true; the input reads as it did. -/
def queryCutSpec : ChangeSpec := { name := "queryCut", fn := fun _ => fun
  | [d1, d2] => { results := [.lit (.bool true)], args := [d1, d2] }
  | _ => none }
def queryCutRow : OpenClaim := { program := "ytgbjldkbbbjnkaadoor", sum := "3b9862b872e4fda8309b9b7511c84af2aa43f171a07bdfe911ad7dfd7dac05c6", func := "langdoc/langdoclaw35.QueryCut", spec := "queryCut", inPlace := ["internal/abi.NoEscape", "internal/bytealg.CountString", "internal/bytealg.IndexByteString", "internal/bytealg.IndexString", "internal/bytealg.MakeNoZero"], unfollowed := true, recurses := true, named := ["langdoc/query.pairs", "unicode/utf8.first", "unicode/utf8.acceptRanges", "langdoc/query.roles", "internal/bytealg.MaxLen"], loops := true, apart := false, laid := [("unicode/utf8.acceptRanges", laid_unicode_utf8_acceptRanges), ("langdoc/query.roles", laid_langdoc_query_roles), ("langdoc/query.pairs", laid_langdoc_query_pairs), ("unicode/utf8.first", laid_unicode_utf8_first)] }
def QueryCutSaid : Prop := queryCutRow.holds Tryd.pinned (OpenSpec.ofChange queryCutSpec)

/-- ITS FALSE NEIGHBOUR: 'it returns false'. Refute it at one input. -/
def queryCutWrong : ChangeSpec := { name := "queryCut", fn := fun _ => fun
  | [d1, d2] => { results := [.lit (.bool false)], args := [d1, d2] }
  | _ => none }
def QueryCutWrongFalsely : Prop := queryCutRow.holds Tryd.pinned (OpenSpec.ofChange queryCutWrong)

/- THE SECOND FORM. 'bulk': how many values and letters a reading holds, each counted each time it is reached (what is shared counts as often as it is met; a slice's spare places count too). A statement '..UptoSaid' is the law's where the arguments, and the package variables that the reading takes, are together of bulk at most 1048576: NARROWER than '..Said'. Prove '..Said' where nothing that the law and all that it calls make is longer than what came in: it says more and counts as full. Else prove '..UptoSaid'. A law counts once. -/
mutual
def uptoBulk {H : Type} : DataW H → Nat
  | .lit (.string bytes) => bytes.length + 1
  | .lit _ => 1
  | .nil => 1
  | .ptr d => uptoBulk d + 1
  | .slice elems spare => uptoBulkAll elems + uptoBulkAll spare + 1
  | .agg parts => uptoBulkAll parts + 1
  | .iface _ d => uptoBulk d + 1
  | .map entries => uptoBulkEntries entries + 1
  | .held _ => 1
def uptoBulkAll {H : Type} : List (DataW H) → Nat
  | [] => 0
  | d :: r => uptoBulk d + uptoBulkAll r
def uptoBulkEntries {H : Type} : List (Lit × DataW H) → Nat
  | [] => 0
  | x :: r => uptoBulkEntry x + uptoBulkEntries r
def uptoBulkEntry {H : Type} : Lit × DataW H → Nat
  | (.string bytes, d) => bytes.length + uptoBulk d + 1
  | (_, d) => uptoBulk d + 1
 end
def uptoSmall : (H : Type) → List (DataW H) → Bool := fun _ ds => decide (uptoBulkAll ds ≤ 1048576)
def OpenSpec.upto (s : _root_.Go.ChangeSpec) : _root_.Go.OpenSpec := { _root_.Go.OpenSpec.ofChange s with cond := some uptoSmall }

/-- 'langdoclaw35.QueryWhere', WHERE WHAT IT READS IS OF BULK AT MOST 1048576: true; the input reads as it did. -/
def queryWhereUptoRow : OpenClaim := { program := "ytgbjldkbbbjnkaadoor", sum := "3b9862b872e4fda8309b9b7511c84af2aa43f171a07bdfe911ad7dfd7dac05c6", func := "langdoc/langdoclaw35.QueryWhere", spec := "queryWhere", inPlace := ["internal/abi.NoEscape", "internal/bytealg.CountString", "internal/bytealg.IndexByteString", "internal/bytealg.IndexString", "internal/bytealg.MakeNoZero"], unfollowed := true, recurses := true, named := ["langdoc/query.pairs", "unicode/utf8.first", "unicode/utf8.acceptRanges", "langdoc/query.roles", "internal/bytealg.MaxLen"], apart := false, laid := [("unicode/utf8.acceptRanges", laid_unicode_utf8_acceptRanges), ("langdoc/query.roles", laid_langdoc_query_roles), ("langdoc/query.pairs", laid_langdoc_query_pairs), ("unicode/utf8.first", laid_unicode_utf8_first)], narrowed := true }
def QueryWhereUptoSaid : Prop := queryWhereUptoRow.holds Tryd.pinned (OpenSpec.upto queryWhereSpec)

/-- 'langdoclaw35.QueryJoins', WHERE WHAT IT READS IS OF BULK AT MOST 1048576: true; the input reads as it did. -/
def queryJoinsUptoRow : OpenClaim := { program := "ytgbjldkbbbjnkaadoor", sum := "3b9862b872e4fda8309b9b7511c84af2aa43f171a07bdfe911ad7dfd7dac05c6", func := "langdoc/langdoclaw35.QueryJoins", spec := "queryJoins", inPlace := ["internal/abi.NoEscape", "internal/bytealg.CountString", "internal/bytealg.IndexByteString", "internal/bytealg.IndexString", "internal/bytealg.MakeNoZero"], unfollowed := true, recurses := true, named := ["langdoc/query.pairs", "unicode/utf8.first", "unicode/utf8.acceptRanges", "langdoc/query.roles", "internal/bytealg.MaxLen"], loops := true, apart := false, laid := [("unicode/utf8.acceptRanges", laid_unicode_utf8_acceptRanges), ("langdoc/query.roles", laid_langdoc_query_roles), ("langdoc/query.pairs", laid_langdoc_query_pairs), ("unicode/utf8.first", laid_unicode_utf8_first)], narrowed := true }
def QueryJoinsUptoSaid : Prop := queryJoinsUptoRow.holds Tryd.pinned (OpenSpec.upto queryJoinsSpec)

/-- 'langdoclaw35.QueryChecks', WHERE WHAT IT READS IS OF BULK AT MOST 1048576: true; the input reads as it did. -/
def queryChecksUptoRow : OpenClaim := { program := "ytgbjldkbbbjnkaadoor", sum := "3b9862b872e4fda8309b9b7511c84af2aa43f171a07bdfe911ad7dfd7dac05c6", func := "langdoc/langdoclaw35.QueryChecks", spec := "queryChecks", inPlace := ["internal/abi.NoEscape", "internal/bytealg.CountString", "internal/bytealg.IndexByteString", "internal/bytealg.IndexString", "internal/bytealg.MakeNoZero"], unfollowed := true, recurses := true, named := ["langdoc/query.pairs", "unicode/utf8.first", "unicode/utf8.acceptRanges", "langdoc/query.roles", "internal/bytealg.MaxLen"], loops := true, apart := false, laid := [("unicode/utf8.acceptRanges", laid_unicode_utf8_acceptRanges), ("langdoc/query.roles", laid_langdoc_query_roles), ("langdoc/query.pairs", laid_langdoc_query_pairs), ("unicode/utf8.first", laid_unicode_utf8_first)], narrowed := true }
def QueryChecksUptoSaid : Prop := queryChecksUptoRow.holds Tryd.pinned (OpenSpec.upto queryChecksSpec)

/-- 'langdoclaw35.QueryPrints', WHERE WHAT IT READS IS OF BULK AT MOST 1048576: true; the input reads as it did. -/
def queryPrintsUptoRow : OpenClaim := { program := "ytgbjldkbbbjnkaadoor", sum := "3b9862b872e4fda8309b9b7511c84af2aa43f171a07bdfe911ad7dfd7dac05c6", func := "langdoc/langdoclaw35.QueryPrints", spec := "queryPrints", inPlace := ["internal/abi.NoEscape", "internal/bytealg.CountString", "internal/bytealg.IndexByteString", "internal/bytealg.IndexString", "internal/bytealg.MakeNoZero"], unfollowed := true, recurses := true, named := ["langdoc/query.pairs", "unicode/utf8.first", "unicode/utf8.acceptRanges", "langdoc/query.roles", "internal/bytealg.MaxLen"], loops := true, apart := false, laid := [("unicode/utf8.acceptRanges", laid_unicode_utf8_acceptRanges), ("langdoc/query.roles", laid_langdoc_query_roles), ("langdoc/query.pairs", laid_langdoc_query_pairs), ("unicode/utf8.first", laid_unicode_utf8_first)], narrowed := true }
def QueryPrintsUptoSaid : Prop := queryPrintsUptoRow.holds Tryd.pinned (OpenSpec.upto queryPrintsSpec)

/-- 'langdoclaw35.QueryParses', WHERE WHAT IT READS IS OF BULK AT MOST 1048576: true; the input reads as it did. -/
def queryParsesUptoRow : OpenClaim := { program := "ytgbjldkbbbjnkaadoor", sum := "3b9862b872e4fda8309b9b7511c84af2aa43f171a07bdfe911ad7dfd7dac05c6", func := "langdoc/langdoclaw35.QueryParses", spec := "queryParses", inPlace := ["internal/abi.NoEscape", "internal/bytealg.CountString", "internal/bytealg.IndexByteString", "internal/bytealg.IndexString", "internal/bytealg.MakeNoZero"], unfollowed := true, recurses := true, named := ["langdoc/query.pairs", "unicode/utf8.first", "unicode/utf8.acceptRanges", "langdoc/query.roles", "internal/bytealg.MaxLen"], apart := false, laid := [("unicode/utf8.acceptRanges", laid_unicode_utf8_acceptRanges), ("langdoc/query.roles", laid_langdoc_query_roles), ("langdoc/query.pairs", laid_langdoc_query_pairs), ("unicode/utf8.first", laid_unicode_utf8_first)], narrowed := true }
def QueryParsesUptoSaid : Prop := queryParsesUptoRow.holds Tryd.pinned (OpenSpec.upto queryParsesSpec)

/-- 'langdoclaw35.QuerySame', WHERE WHAT IT READS IS OF BULK AT MOST 1048576: true; the input reads as it did. -/
def querySameUptoRow : OpenClaim := { program := "ytgbjldkbbbjnkaadoor", sum := "3b9862b872e4fda8309b9b7511c84af2aa43f171a07bdfe911ad7dfd7dac05c6", func := "langdoc/langdoclaw35.QuerySame", spec := "querySame", inPlace := ["internal/abi.NoEscape", "internal/bytealg.CountString", "internal/bytealg.IndexByteString", "internal/bytealg.IndexString", "internal/bytealg.MakeNoZero"], unfollowed := true, recurses := true, named := ["langdoc/query.pairs", "unicode/utf8.first", "unicode/utf8.acceptRanges", "langdoc/query.roles", "internal/bytealg.MaxLen"], loops := true, apart := false, laid := [("unicode/utf8.acceptRanges", laid_unicode_utf8_acceptRanges), ("langdoc/query.roles", laid_langdoc_query_roles), ("langdoc/query.pairs", laid_langdoc_query_pairs), ("unicode/utf8.first", laid_unicode_utf8_first)], narrowed := true }
def QuerySameUptoSaid : Prop := querySameUptoRow.holds Tryd.pinned (OpenSpec.upto querySameSpec)

/-- 'langdoclaw35.QueryBack', WHERE WHAT IT READS IS OF BULK AT MOST 1048576: true; the input reads as it did. -/
def queryBackUptoRow : OpenClaim := { program := "ytgbjldkbbbjnkaadoor", sum := "3b9862b872e4fda8309b9b7511c84af2aa43f171a07bdfe911ad7dfd7dac05c6", func := "langdoc/langdoclaw35.QueryBack", spec := "queryBack", inPlace := ["internal/abi.NoEscape", "internal/bytealg.CountString", "internal/bytealg.IndexByteString", "internal/bytealg.IndexString", "internal/bytealg.MakeNoZero"], unfollowed := true, recurses := true, named := ["langdoc/query.pairs", "unicode/utf8.first", "unicode/utf8.acceptRanges", "langdoc/query.roles", "internal/bytealg.MaxLen"], loops := true, apart := false, laid := [("unicode/utf8.acceptRanges", laid_unicode_utf8_acceptRanges), ("langdoc/query.roles", laid_langdoc_query_roles), ("langdoc/query.pairs", laid_langdoc_query_pairs), ("unicode/utf8.first", laid_unicode_utf8_first)], narrowed := true }
def QueryBackUptoSaid : Prop := queryBackUptoRow.holds Tryd.pinned (OpenSpec.upto queryBackSpec)

/-- 'langdoclaw35.QueryOnly', WHERE WHAT IT READS IS OF BULK AT MOST 1048576: true; the input reads as it did. -/
def queryOnlyUptoRow : OpenClaim := { program := "ytgbjldkbbbjnkaadoor", sum := "3b9862b872e4fda8309b9b7511c84af2aa43f171a07bdfe911ad7dfd7dac05c6", func := "langdoc/langdoclaw35.QueryOnly", spec := "queryOnly", inPlace := ["internal/abi.NoEscape", "internal/bytealg.CountString", "internal/bytealg.IndexByteString", "internal/bytealg.IndexString", "internal/bytealg.MakeNoZero"], unfollowed := true, recurses := true, named := ["langdoc/query.pairs", "unicode/utf8.first", "unicode/utf8.acceptRanges", "langdoc/query.roles", "internal/bytealg.MaxLen"], apart := false, laid := [("unicode/utf8.acceptRanges", laid_unicode_utf8_acceptRanges), ("langdoc/query.roles", laid_langdoc_query_roles), ("langdoc/query.pairs", laid_langdoc_query_pairs), ("unicode/utf8.first", laid_unicode_utf8_first)], narrowed := true }
def QueryOnlyUptoSaid : Prop := queryOnlyUptoRow.holds Tryd.pinned (OpenSpec.upto queryOnlySpec)

/-- 'langdoclaw35.QueryCut', WHERE WHAT IT READS IS OF BULK AT MOST 1048576: true; the input reads as it did. -/
def queryCutUptoRow : OpenClaim := { program := "ytgbjldkbbbjnkaadoor", sum := "3b9862b872e4fda8309b9b7511c84af2aa43f171a07bdfe911ad7dfd7dac05c6", func := "langdoc/langdoclaw35.QueryCut", spec := "queryCut", inPlace := ["internal/abi.NoEscape", "internal/bytealg.CountString", "internal/bytealg.IndexByteString", "internal/bytealg.IndexString", "internal/bytealg.MakeNoZero"], unfollowed := true, recurses := true, named := ["langdoc/query.pairs", "unicode/utf8.first", "unicode/utf8.acceptRanges", "langdoc/query.roles", "internal/bytealg.MaxLen"], loops := true, apart := false, laid := [("unicode/utf8.acceptRanges", laid_unicode_utf8_acceptRanges), ("langdoc/query.roles", laid_langdoc_query_roles), ("langdoc/query.pairs", laid_langdoc_query_pairs), ("unicode/utf8.first", laid_unicode_utf8_first)], narrowed := true }
def QueryCutUptoSaid : Prop := queryCutUptoRow.holds Tryd.pinned (OpenSpec.upto queryCutSpec)

end Rows
end Go.Proofs.YtgbjldkbbbjnkaaDoor
