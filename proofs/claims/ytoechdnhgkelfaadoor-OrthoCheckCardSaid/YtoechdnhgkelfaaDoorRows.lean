/-
  NARROWER THAN 'FOR EVERY INPUT', by the rows' own cells (each row's printed sentence says how): OrthoCheck: laid · OrthoReads: laid · OrthoSpells: laid · OrthoDivides: laid · OrthoSums: laid · OrthoExact: laid · OrthoAdds: laid.
  DERIVED. THE GIVEN ROWS OF THIS SEAT. 7 by the template 'for every input the law returns true; each argument reads behind the call as it read before'; 0 by the template 'total and deterministic' (their statements: YtoechdnhgkelfaaDoorTotals.lean).
  GIVEN WITH THE SEED: the statements are not yours to turn. If you find one false, say at which input.
  Laid BY PROGRAM, IN A SANDBOX (cutbox-rows.mjs): the forced cells as the released guide's own fill.sh prints them over the translation 54db44ce10a75454… (all of the seat's roots in one cut). By AI agents, Wed Nov 11 2026. No macro, syntax, notation, axiom, sorry.
-/
import Derived.Test.YtoechdnhgkelfaaDoorChecked
import GoSem.PinnedTables
import GoSem.Claim
import GoSem.ClaimJoined
import GoSem.ClaimMapViews
import Derived.JoinedTies
import Derived.KernelRfl
namespace Go.Proofs.YtoechdnhgkelfaaDoor
/- THE CELL 'sum', in the pinned program and in every row, IS THE sha256 OF THE DUMP (.gsa) THAT YtoechdnhgkelfaaDoorProg.lean LOADS. Nothing in Lean hashes anything: it is a label: what it is worth is what the hold of that sum in a sandbox is worth. -/
noncomputable def Tryd.pinned : Pinned := { name := "ytoechdnhgkelfaadoor", sum := "54db44ce10a754548736e1a73605402308d337d9d28a24cac9201ca840e21e65", checked := Tryd.checked }
namespace Rows
def none {H : Type} : Left H := { results := [], args := [] }

/- WHAT THE LISTED PACKAGE-LEVEL VARIABLES READ AS WHEN THE CALL BEGINS. Each datum BY PROGRAM (the guide's laid-datum.mjs) off the statement by which the dump's own 'gosem.cut.vars' lays the variable. In a bare row this is a premise. The card (YtoechdnhgkelfaaDoorCards.lean) ties it to the program's text. -/
def laid_unicode_utf8_acceptRanges {H : Type} : DataW H := .agg [.agg [.lit (.int .u8 128), .lit (.int .u8 191)], .agg [.lit (.int .u8 160), .lit (.int .u8 191)], .agg [.lit (.int .u8 128), .lit (.int .u8 159)], .agg [.lit (.int .u8 144), .lit (.int .u8 191)], .agg [.lit (.int .u8 128), .lit (.int .u8 143)], .agg [.lit (.int .u8 0), .lit (.int .u8 0)], .agg [.lit (.int .u8 0), .lit (.int .u8 0)], .agg [.lit (.int .u8 0), .lit (.int .u8 0)], .agg [.lit (.int .u8 0), .lit (.int .u8 0)], .agg [.lit (.int .u8 0), .lit (.int .u8 0)], .agg [.lit (.int .u8 0), .lit (.int .u8 0)], .agg [.lit (.int .u8 0), .lit (.int .u8 0)], .agg [.lit (.int .u8 0), .lit (.int .u8 0)], .agg [.lit (.int .u8 0), .lit (.int .u8 0)], .agg [.lit (.int .u8 0), .lit (.int .u8 0)], .agg [.lit (.int .u8 0), .lit (.int .u8 0)]]
/-- One of Go's own tables, pinned by name: the form's constant. -/
def laid_unicode_utf8_first : DataW Unit := Go.Pinned.utf8First

/-- 'langdoclaw17.OrthoCheck': WHATEVER THE INPUT: true; the input reads as it did. -/
def orthoCheckSpec : ChangeSpec := { name := "orthoCheck", fn := fun _ => fun
  | [d1, d2] => { results := [.lit (.bool true)], args := [d1, d2] }
  | _ => none }
def orthoCheckRow : OpenClaim := { program := "ytoechdnhgkelfaadoor", sum := "54db44ce10a754548736e1a73605402308d337d9d28a24cac9201ca840e21e65", func := "langdoc/langdoclaw17.OrthoCheck", spec := "orthoCheck", inPlace := ["internal/abi.NoEscape", "internal/bytealg.IndexByteString", "internal/bytealg.IndexString"], unfollowed := true, recurses := true, named := ["unicode/utf8.first", "unicode/utf8.acceptRanges", "internal/bytealg.MaxLen"], apart := false, laid := [("unicode/utf8.acceptRanges", laid_unicode_utf8_acceptRanges), ("unicode/utf8.first", laid_unicode_utf8_first)] }
def OrthoCheckSaid : Prop := orthoCheckRow.holds Tryd.pinned (OpenSpec.ofChange orthoCheckSpec)

/-- ITS FALSE NEIGHBOUR: 'it returns false'. Refute it at one input. -/
def orthoCheckWrong : ChangeSpec := { name := "orthoCheck", fn := fun _ => fun
  | [d1, d2] => { results := [.lit (.bool false)], args := [d1, d2] }
  | _ => none }
def OrthoCheckWrongFalsely : Prop := orthoCheckRow.holds Tryd.pinned (OpenSpec.ofChange orthoCheckWrong)

/-- 'langdoclaw17.OrthoReads': WHATEVER THE INPUT: true; the input reads as it did. -/
def orthoReadsSpec : ChangeSpec := { name := "orthoReads", fn := fun _ => fun
  | [d1, d2, d3] => { results := [.lit (.bool true)], args := [d1, d2, d3] }
  | _ => none }
def orthoReadsRow : OpenClaim := { program := "ytoechdnhgkelfaadoor", sum := "54db44ce10a754548736e1a73605402308d337d9d28a24cac9201ca840e21e65", func := "langdoc/langdoclaw17.OrthoReads", spec := "orthoReads", inPlace := ["internal/abi.NoEscape", "internal/bytealg.IndexByteString", "internal/bytealg.IndexString"], unfollowed := true, recurses := true, named := ["unicode/utf8.first", "unicode/utf8.acceptRanges", "internal/bytealg.MaxLen"], apart := false, laid := [("unicode/utf8.acceptRanges", laid_unicode_utf8_acceptRanges), ("unicode/utf8.first", laid_unicode_utf8_first)] }
def OrthoReadsSaid : Prop := orthoReadsRow.holds Tryd.pinned (OpenSpec.ofChange orthoReadsSpec)

/-- ITS FALSE NEIGHBOUR: 'it returns false'. Refute it at one input. -/
def orthoReadsWrong : ChangeSpec := { name := "orthoReads", fn := fun _ => fun
  | [d1, d2, d3] => { results := [.lit (.bool false)], args := [d1, d2, d3] }
  | _ => none }
def OrthoReadsWrongFalsely : Prop := orthoReadsRow.holds Tryd.pinned (OpenSpec.ofChange orthoReadsWrong)

/-- 'langdoclaw17.OrthoSpells': WHATEVER THE INPUT: true; the input reads as it did. -/
def orthoSpellsSpec : ChangeSpec := { name := "orthoSpells", fn := fun _ => fun
  | [d1, d2, d3] => { results := [.lit (.bool true)], args := [d1, d2, d3] }
  | _ => none }
def orthoSpellsRow : OpenClaim := { program := "ytoechdnhgkelfaadoor", sum := "54db44ce10a754548736e1a73605402308d337d9d28a24cac9201ca840e21e65", func := "langdoc/langdoclaw17.OrthoSpells", spec := "orthoSpells", inPlace := ["internal/abi.NoEscape", "internal/bytealg.IndexByteString", "internal/bytealg.IndexString"], unfollowed := true, recurses := true, named := ["unicode/utf8.first", "unicode/utf8.acceptRanges", "internal/bytealg.MaxLen"], apart := false, laid := [("unicode/utf8.acceptRanges", laid_unicode_utf8_acceptRanges), ("unicode/utf8.first", laid_unicode_utf8_first)] }
def OrthoSpellsSaid : Prop := orthoSpellsRow.holds Tryd.pinned (OpenSpec.ofChange orthoSpellsSpec)

/-- ITS FALSE NEIGHBOUR: 'it returns false'. Refute it at one input. -/
def orthoSpellsWrong : ChangeSpec := { name := "orthoSpells", fn := fun _ => fun
  | [d1, d2, d3] => { results := [.lit (.bool false)], args := [d1, d2, d3] }
  | _ => none }
def OrthoSpellsWrongFalsely : Prop := orthoSpellsRow.holds Tryd.pinned (OpenSpec.ofChange orthoSpellsWrong)

/-- 'langdoclaw17.OrthoDivides': WHATEVER THE INPUT: true; the input reads as it did. -/
def orthoDividesSpec : ChangeSpec := { name := "orthoDivides", fn := fun _ => fun
  | [d1, d2, d3] => { results := [.lit (.bool true)], args := [d1, d2, d3] }
  | _ => none }
def orthoDividesRow : OpenClaim := { program := "ytoechdnhgkelfaadoor", sum := "54db44ce10a754548736e1a73605402308d337d9d28a24cac9201ca840e21e65", func := "langdoc/langdoclaw17.OrthoDivides", spec := "orthoDivides", inPlace := ["internal/abi.NoEscape", "internal/bytealg.IndexByteString", "internal/bytealg.IndexString"], unfollowed := true, recurses := true, named := ["unicode/utf8.first", "unicode/utf8.acceptRanges", "internal/bytealg.MaxLen"], apart := false, laid := [("unicode/utf8.acceptRanges", laid_unicode_utf8_acceptRanges), ("unicode/utf8.first", laid_unicode_utf8_first)] }
def OrthoDividesSaid : Prop := orthoDividesRow.holds Tryd.pinned (OpenSpec.ofChange orthoDividesSpec)

/-- ITS FALSE NEIGHBOUR: 'it returns false'. Refute it at one input. -/
def orthoDividesWrong : ChangeSpec := { name := "orthoDivides", fn := fun _ => fun
  | [d1, d2, d3] => { results := [.lit (.bool false)], args := [d1, d2, d3] }
  | _ => none }
def OrthoDividesWrongFalsely : Prop := orthoDividesRow.holds Tryd.pinned (OpenSpec.ofChange orthoDividesWrong)

/-- 'langdoclaw17.OrthoSums': WHATEVER THE INPUT: true; the input reads as it did. -/
def orthoSumsSpec : ChangeSpec := { name := "orthoSums", fn := fun _ => fun
  | [d1, d2, d3, d4] => { results := [.lit (.bool true)], args := [d1, d2, d3, d4] }
  | _ => none }
def orthoSumsRow : OpenClaim := { program := "ytoechdnhgkelfaadoor", sum := "54db44ce10a754548736e1a73605402308d337d9d28a24cac9201ca840e21e65", func := "langdoc/langdoclaw17.OrthoSums", spec := "orthoSums", inPlace := ["internal/abi.NoEscape", "internal/bytealg.IndexByteString", "internal/bytealg.IndexString"], unfollowed := true, recurses := true, named := ["unicode/utf8.first", "unicode/utf8.acceptRanges", "internal/bytealg.MaxLen"], apart := false, laid := [("unicode/utf8.acceptRanges", laid_unicode_utf8_acceptRanges), ("unicode/utf8.first", laid_unicode_utf8_first)] }
def OrthoSumsSaid : Prop := orthoSumsRow.holds Tryd.pinned (OpenSpec.ofChange orthoSumsSpec)

/-- ITS FALSE NEIGHBOUR: 'it returns false'. Refute it at one input. -/
def orthoSumsWrong : ChangeSpec := { name := "orthoSums", fn := fun _ => fun
  | [d1, d2, d3, d4] => { results := [.lit (.bool false)], args := [d1, d2, d3, d4] }
  | _ => none }
def OrthoSumsWrongFalsely : Prop := orthoSumsRow.holds Tryd.pinned (OpenSpec.ofChange orthoSumsWrong)

/-- 'langdoclaw17.OrthoExact': WHATEVER THE INPUT: true; the input reads as it did. -/
def orthoExactSpec : ChangeSpec := { name := "orthoExact", fn := fun _ => fun
  | [d1, d2, d3, d4] => { results := [.lit (.bool true)], args := [d1, d2, d3, d4] }
  | _ => none }
def orthoExactRow : OpenClaim := { program := "ytoechdnhgkelfaadoor", sum := "54db44ce10a754548736e1a73605402308d337d9d28a24cac9201ca840e21e65", func := "langdoc/langdoclaw17.OrthoExact", spec := "orthoExact", inPlace := ["internal/abi.NoEscape", "internal/bytealg.IndexByteString", "internal/bytealg.IndexString"], unfollowed := true, recurses := true, named := ["unicode/utf8.first", "unicode/utf8.acceptRanges", "internal/bytealg.MaxLen"], apart := false, laid := [("unicode/utf8.acceptRanges", laid_unicode_utf8_acceptRanges), ("unicode/utf8.first", laid_unicode_utf8_first)] }
def OrthoExactSaid : Prop := orthoExactRow.holds Tryd.pinned (OpenSpec.ofChange orthoExactSpec)

/-- ITS FALSE NEIGHBOUR: 'it returns false'. Refute it at one input. -/
def orthoExactWrong : ChangeSpec := { name := "orthoExact", fn := fun _ => fun
  | [d1, d2, d3, d4] => { results := [.lit (.bool false)], args := [d1, d2, d3, d4] }
  | _ => none }
def OrthoExactWrongFalsely : Prop := orthoExactRow.holds Tryd.pinned (OpenSpec.ofChange orthoExactWrong)

/-- 'langdoclaw17.OrthoAdds': WHATEVER THE INPUT: true; the input reads as it did. -/
def orthoAddsSpec : ChangeSpec := { name := "orthoAdds", fn := fun _ => fun
  | [d1, d2, d3, d4] => { results := [.lit (.bool true)], args := [d1, d2, d3, d4] }
  | _ => none }
def orthoAddsRow : OpenClaim := { program := "ytoechdnhgkelfaadoor", sum := "54db44ce10a754548736e1a73605402308d337d9d28a24cac9201ca840e21e65", func := "langdoc/langdoclaw17.OrthoAdds", spec := "orthoAdds", inPlace := ["internal/abi.NoEscape", "internal/bytealg.IndexByteString", "internal/bytealg.IndexString"], unfollowed := true, recurses := true, named := ["unicode/utf8.first", "unicode/utf8.acceptRanges", "internal/bytealg.MaxLen"], apart := false, laid := [("unicode/utf8.acceptRanges", laid_unicode_utf8_acceptRanges), ("unicode/utf8.first", laid_unicode_utf8_first)] }
def OrthoAddsSaid : Prop := orthoAddsRow.holds Tryd.pinned (OpenSpec.ofChange orthoAddsSpec)

/-- ITS FALSE NEIGHBOUR: 'it returns false'. Refute it at one input. -/
def orthoAddsWrong : ChangeSpec := { name := "orthoAdds", fn := fun _ => fun
  | [d1, d2, d3, d4] => { results := [.lit (.bool false)], args := [d1, d2, d3, d4] }
  | _ => none }
def OrthoAddsWrongFalsely : Prop := orthoAddsRow.holds Tryd.pinned (OpenSpec.ofChange orthoAddsWrong)

/- THE SECOND FORM. 'bulk': how many values and letters a reading holds, each counted each time it is reached (what is shared counts as often as it is met; a slice's spare places count too). A statement '..UptoSaid' is the law's where the arguments, and the package variables that the reading takes, are together of bulk at most 1048576: NARROWER than '..Said'. Prove '..Said' where nothing that the law and all that it calls make is longer than what came in: it says more and counts as full. Else prove '..UptoSaid'. A law counts once. -/
mutual
def uptoBulk {H : Type} : DataW H → Nat
  | .lit (.string bytes) => bytes.length + 1
  | .lit _ => 1
  | .nil => 1
  | .ptr d => uptoBulk d + 1
  | .slice elems spare => uptoBulkAll elems + uptoBulkAll spare + 1
  | .agg parts => uptoBulkAll parts + 1
  | .iface _ d => uptoBulk d + 1
  | .map entries => uptoBulkEntries entries + 1
  | .held _ => 1
def uptoBulkAll {H : Type} : List (DataW H) → Nat
  | [] => 0
  | d :: r => uptoBulk d + uptoBulkAll r
def uptoBulkEntries {H : Type} : List (Lit × DataW H) → Nat
  | [] => 0
  | x :: r => uptoBulkEntry x + uptoBulkEntries r
def uptoBulkEntry {H : Type} : Lit × DataW H → Nat
  | (.string bytes, d) => bytes.length + uptoBulk d + 1
  | (_, d) => uptoBulk d + 1
 end
def uptoSmall : (H : Type) → List (DataW H) → Bool := fun _ ds => decide (uptoBulkAll ds ≤ 1048576)
def OpenSpec.upto (s : _root_.Go.ChangeSpec) : _root_.Go.OpenSpec := { _root_.Go.OpenSpec.ofChange s with cond := some uptoSmall }

/-- 'langdoclaw17.OrthoCheck', WHERE WHAT IT READS IS OF BULK AT MOST 1048576: true; the input reads as it did. -/
def orthoCheckUptoRow : OpenClaim := { program := "ytoechdnhgkelfaadoor", sum := "54db44ce10a754548736e1a73605402308d337d9d28a24cac9201ca840e21e65", func := "langdoc/langdoclaw17.OrthoCheck", spec := "orthoCheck", inPlace := ["internal/abi.NoEscape", "internal/bytealg.IndexByteString", "internal/bytealg.IndexString"], unfollowed := true, recurses := true, named := ["unicode/utf8.first", "unicode/utf8.acceptRanges", "internal/bytealg.MaxLen"], apart := false, laid := [("unicode/utf8.acceptRanges", laid_unicode_utf8_acceptRanges), ("unicode/utf8.first", laid_unicode_utf8_first)], narrowed := true }
def OrthoCheckUptoSaid : Prop := orthoCheckUptoRow.holds Tryd.pinned (OpenSpec.upto orthoCheckSpec)

/-- 'langdoclaw17.OrthoReads', WHERE WHAT IT READS IS OF BULK AT MOST 1048576: true; the input reads as it did. -/
def orthoReadsUptoRow : OpenClaim := { program := "ytoechdnhgkelfaadoor", sum := "54db44ce10a754548736e1a73605402308d337d9d28a24cac9201ca840e21e65", func := "langdoc/langdoclaw17.OrthoReads", spec := "orthoReads", inPlace := ["internal/abi.NoEscape", "internal/bytealg.IndexByteString", "internal/bytealg.IndexString"], unfollowed := true, recurses := true, named := ["unicode/utf8.first", "unicode/utf8.acceptRanges", "internal/bytealg.MaxLen"], apart := false, laid := [("unicode/utf8.acceptRanges", laid_unicode_utf8_acceptRanges), ("unicode/utf8.first", laid_unicode_utf8_first)], narrowed := true }
def OrthoReadsUptoSaid : Prop := orthoReadsUptoRow.holds Tryd.pinned (OpenSpec.upto orthoReadsSpec)

/-- 'langdoclaw17.OrthoSpells', WHERE WHAT IT READS IS OF BULK AT MOST 1048576: true; the input reads as it did. -/
def orthoSpellsUptoRow : OpenClaim := { program := "ytoechdnhgkelfaadoor", sum := "54db44ce10a754548736e1a73605402308d337d9d28a24cac9201ca840e21e65", func := "langdoc/langdoclaw17.OrthoSpells", spec := "orthoSpells", inPlace := ["internal/abi.NoEscape", "internal/bytealg.IndexByteString", "internal/bytealg.IndexString"], unfollowed := true, recurses := true, named := ["unicode/utf8.first", "unicode/utf8.acceptRanges", "internal/bytealg.MaxLen"], apart := false, laid := [("unicode/utf8.acceptRanges", laid_unicode_utf8_acceptRanges), ("unicode/utf8.first", laid_unicode_utf8_first)], narrowed := true }
def OrthoSpellsUptoSaid : Prop := orthoSpellsUptoRow.holds Tryd.pinned (OpenSpec.upto orthoSpellsSpec)

/-- 'langdoclaw17.OrthoDivides', WHERE WHAT IT READS IS OF BULK AT MOST 1048576: true; the input reads as it did. -/
def orthoDividesUptoRow : OpenClaim := { program := "ytoechdnhgkelfaadoor", sum := "54db44ce10a754548736e1a73605402308d337d9d28a24cac9201ca840e21e65", func := "langdoc/langdoclaw17.OrthoDivides", spec := "orthoDivides", inPlace := ["internal/abi.NoEscape", "internal/bytealg.IndexByteString", "internal/bytealg.IndexString"], unfollowed := true, recurses := true, named := ["unicode/utf8.first", "unicode/utf8.acceptRanges", "internal/bytealg.MaxLen"], apart := false, laid := [("unicode/utf8.acceptRanges", laid_unicode_utf8_acceptRanges), ("unicode/utf8.first", laid_unicode_utf8_first)], narrowed := true }
def OrthoDividesUptoSaid : Prop := orthoDividesUptoRow.holds Tryd.pinned (OpenSpec.upto orthoDividesSpec)

/-- 'langdoclaw17.OrthoSums', WHERE WHAT IT READS IS OF BULK AT MOST 1048576: true; the input reads as it did. -/
def orthoSumsUptoRow : OpenClaim := { program := "ytoechdnhgkelfaadoor", sum := "54db44ce10a754548736e1a73605402308d337d9d28a24cac9201ca840e21e65", func := "langdoc/langdoclaw17.OrthoSums", spec := "orthoSums", inPlace := ["internal/abi.NoEscape", "internal/bytealg.IndexByteString", "internal/bytealg.IndexString"], unfollowed := true, recurses := true, named := ["unicode/utf8.first", "unicode/utf8.acceptRanges", "internal/bytealg.MaxLen"], apart := false, laid := [("unicode/utf8.acceptRanges", laid_unicode_utf8_acceptRanges), ("unicode/utf8.first", laid_unicode_utf8_first)], narrowed := true }
def OrthoSumsUptoSaid : Prop := orthoSumsUptoRow.holds Tryd.pinned (OpenSpec.upto orthoSumsSpec)

/-- 'langdoclaw17.OrthoExact', WHERE WHAT IT READS IS OF BULK AT MOST 1048576: true; the input reads as it did. -/
def orthoExactUptoRow : OpenClaim := { program := "ytoechdnhgkelfaadoor", sum := "54db44ce10a754548736e1a73605402308d337d9d28a24cac9201ca840e21e65", func := "langdoc/langdoclaw17.OrthoExact", spec := "orthoExact", inPlace := ["internal/abi.NoEscape", "internal/bytealg.IndexByteString", "internal/bytealg.IndexString"], unfollowed := true, recurses := true, named := ["unicode/utf8.first", "unicode/utf8.acceptRanges", "internal/bytealg.MaxLen"], apart := false, laid := [("unicode/utf8.acceptRanges", laid_unicode_utf8_acceptRanges), ("unicode/utf8.first", laid_unicode_utf8_first)], narrowed := true }
def OrthoExactUptoSaid : Prop := orthoExactUptoRow.holds Tryd.pinned (OpenSpec.upto orthoExactSpec)

/-- 'langdoclaw17.OrthoAdds', WHERE WHAT IT READS IS OF BULK AT MOST 1048576: true; the input reads as it did. -/
def orthoAddsUptoRow : OpenClaim := { program := "ytoechdnhgkelfaadoor", sum := "54db44ce10a754548736e1a73605402308d337d9d28a24cac9201ca840e21e65", func := "langdoc/langdoclaw17.OrthoAdds", spec := "orthoAdds", inPlace := ["internal/abi.NoEscape", "internal/bytealg.IndexByteString", "internal/bytealg.IndexString"], unfollowed := true, recurses := true, named := ["unicode/utf8.first", "unicode/utf8.acceptRanges", "internal/bytealg.MaxLen"], apart := false, laid := [("unicode/utf8.acceptRanges", laid_unicode_utf8_acceptRanges), ("unicode/utf8.first", laid_unicode_utf8_first)], narrowed := true }
def OrthoAddsUptoSaid : Prop := orthoAddsUptoRow.holds Tryd.pinned (OpenSpec.upto orthoAddsSpec)

end Rows
end Go.Proofs.YtoechdnhgkelfaaDoor
