/-
  NARROWER THAN 'FOR EVERY INPUT', by the rows' own cells (each row's printed sentence says how): DatesLeap: laid · DatesDay: laid · DatesCivil: laid · DatesWeekday: laid · DatesTexts: laid · DatesBack: laid · DatesNext: laid · DatesYears: laid · DatesOrder: laid.
  DERIVED. THE GIVEN ROWS OF THIS SEAT. 9 by the template 'for every input the law returns true; each argument reads behind the call as it read before'; 0 by the template 'total and deterministic' (their statements: YtjdfdkanojjebaaDoorTotals.lean).
  GIVEN WITH THE SEED: the statements are not yours to turn. If you find one false, say at which input.
  Laid BY PROGRAM, IN A SANDBOX (cutbox-rows.mjs): the forced cells as the released guide's own fill.sh prints them over the translation ec3e021e0268397a… (all of the seat's roots in one cut). By AI agents, Wed Nov 11 2026. No macro, syntax, notation, axiom, sorry.
-/
import Derived.Test.YtjdfdkanojjebaaDoorChecked
import GoSem.Claim
import GoSem.ClaimJoined
import GoSem.ClaimMapViews
import Derived.JoinedTies
import Derived.KernelRfl
namespace Go.Proofs.YtjdfdkanojjebaaDoor
/- THE CELL 'sum', in the pinned program and in every row, IS THE sha256 OF THE DUMP (.gsa) THAT YtjdfdkanojjebaaDoorProg.lean LOADS. Nothing in Lean hashes anything: it is a label: what it is worth is what the hold of that sum in a sandbox is worth. -/
noncomputable def Tryd.pinned : Pinned := { name := "ytjdfdkanojjebaadoor", sum := "ec3e021e0268397a6eb2cd266c60244d414d4ef872ed4547b44ca7f93bf59417", checked := Tryd.checked }
namespace Rows
def none {H : Type} : Left H := { results := [], args := [] }

/- WHAT THE LISTED PACKAGE-LEVEL VARIABLES READ AS WHEN THE CALL BEGINS. Each datum BY PROGRAM (the guide's laid-datum.mjs) off the statement by which the dump's own 'gosem.cut.vars' lays the variable. In a bare row this is a premise. The card (YtjdfdkanojjebaaDoorCards.lean) ties it to the program's text. -/
def laid_langdoc_dates_lengths {H : Type} : DataW H := .agg [.lit (.int .i64 31), .lit (.int .i64 28), .lit (.int .i64 31), .lit (.int .i64 30), .lit (.int .i64 31), .lit (.int .i64 30), .lit (.int .i64 31), .lit (.int .i64 31), .lit (.int .i64 30), .lit (.int .i64 31), .lit (.int .i64 30), .lit (.int .i64 31)]

/-- 'langdoclaw08.DatesLeap': WHATEVER THE INPUT: true; the input reads as it did. -/
def datesLeapSpec : ChangeSpec := { name := "datesLeap", fn := fun _ => fun
  | [d] => { results := [.lit (.bool true)], args := [d] }
  | _ => none }
def datesLeapRow : OpenClaim := { program := "ytjdfdkanojjebaadoor", sum := "ec3e021e0268397a6eb2cd266c60244d414d4ef872ed4547b44ca7f93bf59417", func := "langdoc/langdoclaw08.DatesLeap", spec := "datesLeap", named := ["langdoc/dates.lengths"], apart := false, laid := [("langdoc/dates.lengths", laid_langdoc_dates_lengths)] }
def DatesLeapSaid : Prop := datesLeapRow.holds Tryd.pinned (OpenSpec.ofChange datesLeapSpec)

/-- ITS FALSE NEIGHBOUR: 'it returns false'. Refute it at one input. -/
def datesLeapWrong : ChangeSpec := { name := "datesLeap", fn := fun _ => fun
  | [d] => { results := [.lit (.bool false)], args := [d] }
  | _ => none }
def DatesLeapWrongFalsely : Prop := datesLeapRow.holds Tryd.pinned (OpenSpec.ofChange datesLeapWrong)

/-- 'langdoclaw08.DatesDay': WHATEVER THE INPUT: true; the input reads as it did. -/
def datesDaySpec : ChangeSpec := { name := "datesDay", fn := fun _ => fun
  | [d1, d2, d3] => { results := [.lit (.bool true)], args := [d1, d2, d3] }
  | _ => none }
def datesDayRow : OpenClaim := { program := "ytjdfdkanojjebaadoor", sum := "ec3e021e0268397a6eb2cd266c60244d414d4ef872ed4547b44ca7f93bf59417", func := "langdoc/langdoclaw08.DatesDay", spec := "datesDay", named := ["langdoc/dates.lengths"], apart := false, laid := [("langdoc/dates.lengths", laid_langdoc_dates_lengths)] }
def DatesDaySaid : Prop := datesDayRow.holds Tryd.pinned (OpenSpec.ofChange datesDaySpec)

/-- ITS FALSE NEIGHBOUR: 'it returns false'. Refute it at one input. -/
def datesDayWrong : ChangeSpec := { name := "datesDay", fn := fun _ => fun
  | [d1, d2, d3] => { results := [.lit (.bool false)], args := [d1, d2, d3] }
  | _ => none }
def DatesDayWrongFalsely : Prop := datesDayRow.holds Tryd.pinned (OpenSpec.ofChange datesDayWrong)

/-- 'langdoclaw08.DatesCivil': WHATEVER THE INPUT: true; the input reads as it did. -/
def datesCivilSpec : ChangeSpec := { name := "datesCivil", fn := fun _ => fun
  | [d] => { results := [.lit (.bool true)], args := [d] }
  | _ => none }
def datesCivilRow : OpenClaim := { program := "ytjdfdkanojjebaadoor", sum := "ec3e021e0268397a6eb2cd266c60244d414d4ef872ed4547b44ca7f93bf59417", func := "langdoc/langdoclaw08.DatesCivil", spec := "datesCivil", named := ["langdoc/dates.lengths"], apart := false, laid := [("langdoc/dates.lengths", laid_langdoc_dates_lengths)] }
def DatesCivilSaid : Prop := datesCivilRow.holds Tryd.pinned (OpenSpec.ofChange datesCivilSpec)

/-- ITS FALSE NEIGHBOUR: 'it returns false'. Refute it at one input. -/
def datesCivilWrong : ChangeSpec := { name := "datesCivil", fn := fun _ => fun
  | [d] => { results := [.lit (.bool false)], args := [d] }
  | _ => none }
def DatesCivilWrongFalsely : Prop := datesCivilRow.holds Tryd.pinned (OpenSpec.ofChange datesCivilWrong)

/-- 'langdoclaw08.DatesWeekday': WHATEVER THE INPUT: true; the input reads as it did. -/
def datesWeekdaySpec : ChangeSpec := { name := "datesWeekday", fn := fun _ => fun
  | [d] => { results := [.lit (.bool true)], args := [d] }
  | _ => none }
def datesWeekdayRow : OpenClaim := { program := "ytjdfdkanojjebaadoor", sum := "ec3e021e0268397a6eb2cd266c60244d414d4ef872ed4547b44ca7f93bf59417", func := "langdoc/langdoclaw08.DatesWeekday", spec := "datesWeekday", named := ["langdoc/dates.lengths"], apart := false, laid := [("langdoc/dates.lengths", laid_langdoc_dates_lengths)] }
def DatesWeekdaySaid : Prop := datesWeekdayRow.holds Tryd.pinned (OpenSpec.ofChange datesWeekdaySpec)

/-- ITS FALSE NEIGHBOUR: 'it returns false'. Refute it at one input. -/
def datesWeekdayWrong : ChangeSpec := { name := "datesWeekday", fn := fun _ => fun
  | [d] => { results := [.lit (.bool false)], args := [d] }
  | _ => none }
def DatesWeekdayWrongFalsely : Prop := datesWeekdayRow.holds Tryd.pinned (OpenSpec.ofChange datesWeekdayWrong)

/-- 'langdoclaw08.DatesTexts': WHATEVER THE INPUT: true; the input reads as it did. -/
def datesTextsSpec : ChangeSpec := { name := "datesTexts", fn := fun _ => fun
  | [d1, d2] => { results := [.lit (.bool true)], args := [d1, d2] }
  | _ => none }
def datesTextsRow : OpenClaim := { program := "ytjdfdkanojjebaadoor", sum := "ec3e021e0268397a6eb2cd266c60244d414d4ef872ed4547b44ca7f93bf59417", func := "langdoc/langdoclaw08.DatesTexts", spec := "datesTexts", named := ["langdoc/dates.lengths"], apart := false, laid := [("langdoc/dates.lengths", laid_langdoc_dates_lengths)] }
def DatesTextsSaid : Prop := datesTextsRow.holds Tryd.pinned (OpenSpec.ofChange datesTextsSpec)

/-- ITS FALSE NEIGHBOUR: 'it returns false'. Refute it at one input. -/
def datesTextsWrong : ChangeSpec := { name := "datesTexts", fn := fun _ => fun
  | [d1, d2] => { results := [.lit (.bool false)], args := [d1, d2] }
  | _ => none }
def DatesTextsWrongFalsely : Prop := datesTextsRow.holds Tryd.pinned (OpenSpec.ofChange datesTextsWrong)

/-- 'langdoclaw08.DatesBack': WHATEVER THE INPUT: true; the input reads as it did. -/
def datesBackSpec : ChangeSpec := { name := "datesBack", fn := fun _ => fun
  | [d1, d2] => { results := [.lit (.bool true)], args := [d1, d2] }
  | _ => none }
def datesBackRow : OpenClaim := { program := "ytjdfdkanojjebaadoor", sum := "ec3e021e0268397a6eb2cd266c60244d414d4ef872ed4547b44ca7f93bf59417", func := "langdoc/langdoclaw08.DatesBack", spec := "datesBack", named := ["langdoc/dates.lengths"], apart := false, laid := [("langdoc/dates.lengths", laid_langdoc_dates_lengths)] }
def DatesBackSaid : Prop := datesBackRow.holds Tryd.pinned (OpenSpec.ofChange datesBackSpec)

/-- ITS FALSE NEIGHBOUR: 'it returns false'. Refute it at one input. -/
def datesBackWrong : ChangeSpec := { name := "datesBack", fn := fun _ => fun
  | [d1, d2] => { results := [.lit (.bool false)], args := [d1, d2] }
  | _ => none }
def DatesBackWrongFalsely : Prop := datesBackRow.holds Tryd.pinned (OpenSpec.ofChange datesBackWrong)

/-- 'langdoclaw08.DatesNext': WHATEVER THE INPUT: true; the input reads as it did. -/
def datesNextSpec : ChangeSpec := { name := "datesNext", fn := fun _ => fun
  | [d] => { results := [.lit (.bool true)], args := [d] }
  | _ => none }
def datesNextRow : OpenClaim := { program := "ytjdfdkanojjebaadoor", sum := "ec3e021e0268397a6eb2cd266c60244d414d4ef872ed4547b44ca7f93bf59417", func := "langdoc/langdoclaw08.DatesNext", spec := "datesNext", named := ["langdoc/dates.lengths"], apart := false, laid := [("langdoc/dates.lengths", laid_langdoc_dates_lengths)] }
def DatesNextSaid : Prop := datesNextRow.holds Tryd.pinned (OpenSpec.ofChange datesNextSpec)

/-- ITS FALSE NEIGHBOUR: 'it returns false'. Refute it at one input. -/
def datesNextWrong : ChangeSpec := { name := "datesNext", fn := fun _ => fun
  | [d] => { results := [.lit (.bool false)], args := [d] }
  | _ => none }
def DatesNextWrongFalsely : Prop := datesNextRow.holds Tryd.pinned (OpenSpec.ofChange datesNextWrong)

/-- 'langdoclaw08.DatesYears': WHATEVER THE INPUT: true; the input reads as it did. -/
def datesYearsSpec : ChangeSpec := { name := "datesYears", fn := fun _ => fun
  | [d] => { results := [.lit (.bool true)], args := [d] }
  | _ => none }
def datesYearsRow : OpenClaim := { program := "ytjdfdkanojjebaadoor", sum := "ec3e021e0268397a6eb2cd266c60244d414d4ef872ed4547b44ca7f93bf59417", func := "langdoc/langdoclaw08.DatesYears", spec := "datesYears", named := ["langdoc/dates.lengths"], apart := false, laid := [("langdoc/dates.lengths", laid_langdoc_dates_lengths)] }
def DatesYearsSaid : Prop := datesYearsRow.holds Tryd.pinned (OpenSpec.ofChange datesYearsSpec)

/-- ITS FALSE NEIGHBOUR: 'it returns false'. Refute it at one input. -/
def datesYearsWrong : ChangeSpec := { name := "datesYears", fn := fun _ => fun
  | [d] => { results := [.lit (.bool false)], args := [d] }
  | _ => none }
def DatesYearsWrongFalsely : Prop := datesYearsRow.holds Tryd.pinned (OpenSpec.ofChange datesYearsWrong)

/-- 'langdoclaw08.DatesOrder': WHATEVER THE INPUT: true; the input reads as it did. -/
def datesOrderSpec : ChangeSpec := { name := "datesOrder", fn := fun _ => fun
  | [d1, d2] => { results := [.lit (.bool true)], args := [d1, d2] }
  | _ => none }
def datesOrderRow : OpenClaim := { program := "ytjdfdkanojjebaadoor", sum := "ec3e021e0268397a6eb2cd266c60244d414d4ef872ed4547b44ca7f93bf59417", func := "langdoc/langdoclaw08.DatesOrder", spec := "datesOrder", named := ["langdoc/dates.lengths"], apart := false, laid := [("langdoc/dates.lengths", laid_langdoc_dates_lengths)] }
def DatesOrderSaid : Prop := datesOrderRow.holds Tryd.pinned (OpenSpec.ofChange datesOrderSpec)

/-- ITS FALSE NEIGHBOUR: 'it returns false'. Refute it at one input. -/
def datesOrderWrong : ChangeSpec := { name := "datesOrder", fn := fun _ => fun
  | [d1, d2] => { results := [.lit (.bool false)], args := [d1, d2] }
  | _ => none }
def DatesOrderWrongFalsely : Prop := datesOrderRow.holds Tryd.pinned (OpenSpec.ofChange datesOrderWrong)

/- THE SECOND FORM. 'bulk': how many values and letters a reading holds, each counted each time it is reached (what is shared counts as often as it is met; a slice's spare places count too). A statement '..UptoSaid' is the law's where the arguments, and the package variables that the reading takes, are together of bulk at most 1048576: NARROWER than '..Said'. Prove '..Said' where nothing that the law and all that it calls make is longer than what came in: it says more and counts as full. Else prove '..UptoSaid'. A law counts once. -/
mutual
def uptoBulk {H : Type} : DataW H → Nat
  | .lit (.string bytes) => bytes.length + 1
  | .lit _ => 1
  | .nil => 1
  | .ptr d => uptoBulk d + 1
  | .slice elems spare => uptoBulkAll elems + uptoBulkAll spare + 1
  | .agg parts => uptoBulkAll parts + 1
  | .iface _ d => uptoBulk d + 1
  | .map entries => uptoBulkEntries entries + 1
  | .held _ => 1
def uptoBulkAll {H : Type} : List (DataW H) → Nat
  | [] => 0
  | d :: r => uptoBulk d + uptoBulkAll r
def uptoBulkEntries {H : Type} : List (Lit × DataW H) → Nat
  | [] => 0
  | x :: r => uptoBulkEntry x + uptoBulkEntries r
def uptoBulkEntry {H : Type} : Lit × DataW H → Nat
  | (.string bytes, d) => bytes.length + uptoBulk d + 1
  | (_, d) => uptoBulk d + 1
 end
def uptoSmall : (H : Type) → List (DataW H) → Bool := fun _ ds => decide (uptoBulkAll ds ≤ 1048576)
def OpenSpec.upto (s : _root_.Go.ChangeSpec) : _root_.Go.OpenSpec := { _root_.Go.OpenSpec.ofChange s with cond := some uptoSmall }

/-- 'langdoclaw08.DatesLeap', WHERE WHAT IT READS IS OF BULK AT MOST 1048576: true; the input reads as it did. -/
def datesLeapUptoRow : OpenClaim := { program := "ytjdfdkanojjebaadoor", sum := "ec3e021e0268397a6eb2cd266c60244d414d4ef872ed4547b44ca7f93bf59417", func := "langdoc/langdoclaw08.DatesLeap", spec := "datesLeap", named := ["langdoc/dates.lengths"], apart := false, laid := [("langdoc/dates.lengths", laid_langdoc_dates_lengths)], narrowed := true }
def DatesLeapUptoSaid : Prop := datesLeapUptoRow.holds Tryd.pinned (OpenSpec.upto datesLeapSpec)

/-- 'langdoclaw08.DatesDay', WHERE WHAT IT READS IS OF BULK AT MOST 1048576: true; the input reads as it did. -/
def datesDayUptoRow : OpenClaim := { program := "ytjdfdkanojjebaadoor", sum := "ec3e021e0268397a6eb2cd266c60244d414d4ef872ed4547b44ca7f93bf59417", func := "langdoc/langdoclaw08.DatesDay", spec := "datesDay", named := ["langdoc/dates.lengths"], apart := false, laid := [("langdoc/dates.lengths", laid_langdoc_dates_lengths)], narrowed := true }
def DatesDayUptoSaid : Prop := datesDayUptoRow.holds Tryd.pinned (OpenSpec.upto datesDaySpec)

/-- 'langdoclaw08.DatesCivil', WHERE WHAT IT READS IS OF BULK AT MOST 1048576: true; the input reads as it did. -/
def datesCivilUptoRow : OpenClaim := { program := "ytjdfdkanojjebaadoor", sum := "ec3e021e0268397a6eb2cd266c60244d414d4ef872ed4547b44ca7f93bf59417", func := "langdoc/langdoclaw08.DatesCivil", spec := "datesCivil", named := ["langdoc/dates.lengths"], apart := false, laid := [("langdoc/dates.lengths", laid_langdoc_dates_lengths)], narrowed := true }
def DatesCivilUptoSaid : Prop := datesCivilUptoRow.holds Tryd.pinned (OpenSpec.upto datesCivilSpec)

/-- 'langdoclaw08.DatesWeekday', WHERE WHAT IT READS IS OF BULK AT MOST 1048576: true; the input reads as it did. -/
def datesWeekdayUptoRow : OpenClaim := { program := "ytjdfdkanojjebaadoor", sum := "ec3e021e0268397a6eb2cd266c60244d414d4ef872ed4547b44ca7f93bf59417", func := "langdoc/langdoclaw08.DatesWeekday", spec := "datesWeekday", named := ["langdoc/dates.lengths"], apart := false, laid := [("langdoc/dates.lengths", laid_langdoc_dates_lengths)], narrowed := true }
def DatesWeekdayUptoSaid : Prop := datesWeekdayUptoRow.holds Tryd.pinned (OpenSpec.upto datesWeekdaySpec)

/-- 'langdoclaw08.DatesTexts', WHERE WHAT IT READS IS OF BULK AT MOST 1048576: true; the input reads as it did. -/
def datesTextsUptoRow : OpenClaim := { program := "ytjdfdkanojjebaadoor", sum := "ec3e021e0268397a6eb2cd266c60244d414d4ef872ed4547b44ca7f93bf59417", func := "langdoc/langdoclaw08.DatesTexts", spec := "datesTexts", named := ["langdoc/dates.lengths"], apart := false, laid := [("langdoc/dates.lengths", laid_langdoc_dates_lengths)], narrowed := true }
def DatesTextsUptoSaid : Prop := datesTextsUptoRow.holds Tryd.pinned (OpenSpec.upto datesTextsSpec)

/-- 'langdoclaw08.DatesBack', WHERE WHAT IT READS IS OF BULK AT MOST 1048576: true; the input reads as it did. -/
def datesBackUptoRow : OpenClaim := { program := "ytjdfdkanojjebaadoor", sum := "ec3e021e0268397a6eb2cd266c60244d414d4ef872ed4547b44ca7f93bf59417", func := "langdoc/langdoclaw08.DatesBack", spec := "datesBack", named := ["langdoc/dates.lengths"], apart := false, laid := [("langdoc/dates.lengths", laid_langdoc_dates_lengths)], narrowed := true }
def DatesBackUptoSaid : Prop := datesBackUptoRow.holds Tryd.pinned (OpenSpec.upto datesBackSpec)

/-- 'langdoclaw08.DatesNext', WHERE WHAT IT READS IS OF BULK AT MOST 1048576: true; the input reads as it did. -/
def datesNextUptoRow : OpenClaim := { program := "ytjdfdkanojjebaadoor", sum := "ec3e021e0268397a6eb2cd266c60244d414d4ef872ed4547b44ca7f93bf59417", func := "langdoc/langdoclaw08.DatesNext", spec := "datesNext", named := ["langdoc/dates.lengths"], apart := false, laid := [("langdoc/dates.lengths", laid_langdoc_dates_lengths)], narrowed := true }
def DatesNextUptoSaid : Prop := datesNextUptoRow.holds Tryd.pinned (OpenSpec.upto datesNextSpec)

/-- 'langdoclaw08.DatesYears', WHERE WHAT IT READS IS OF BULK AT MOST 1048576: true; the input reads as it did. -/
def datesYearsUptoRow : OpenClaim := { program := "ytjdfdkanojjebaadoor", sum := "ec3e021e0268397a6eb2cd266c60244d414d4ef872ed4547b44ca7f93bf59417", func := "langdoc/langdoclaw08.DatesYears", spec := "datesYears", named := ["langdoc/dates.lengths"], apart := false, laid := [("langdoc/dates.lengths", laid_langdoc_dates_lengths)], narrowed := true }
def DatesYearsUptoSaid : Prop := datesYearsUptoRow.holds Tryd.pinned (OpenSpec.upto datesYearsSpec)

/-- 'langdoclaw08.DatesOrder', WHERE WHAT IT READS IS OF BULK AT MOST 1048576: true; the input reads as it did. -/
def datesOrderUptoRow : OpenClaim := { program := "ytjdfdkanojjebaadoor", sum := "ec3e021e0268397a6eb2cd266c60244d414d4ef872ed4547b44ca7f93bf59417", func := "langdoc/langdoclaw08.DatesOrder", spec := "datesOrder", named := ["langdoc/dates.lengths"], apart := false, laid := [("langdoc/dates.lengths", laid_langdoc_dates_lengths)], narrowed := true }
def DatesOrderUptoSaid : Prop := datesOrderUptoRow.holds Tryd.pinned (OpenSpec.upto datesOrderSpec)

end Rows
end Go.Proofs.YtjdfdkanojjebaaDoor
