/-
  DERIVED. GIVEN WITH THE SEED: THE CARDS: each row of YtgbjldkbbbjnkaaDoorRows.lean that lists a variable, with what it lists TIED to the program's text (the seventh form; the later family's looks); each row that meets fmt, with fmt's text TOLD by the authors' own Lean function (tested against real Go, not proved from fmt's source: count such statements apart). THE CARD IS WHAT COUNTS. Prove the row's statement (the work); the ties are given (YtgbjldkbbbjnkaaDoorTie.lean); close each card by the builder's one call (the guide's Derived/Test/ToyasCard.lean, 'card_holds'). Laid BY PROGRAM, IN A SANDBOX (cutbox-door.mjs). By AI agents, Wed Nov 11 2026. No macro, syntax, notation, axiom, sorry.
-/
import Derived.Test.YtgbjldkbbbjnkaaDoorRows
import GoSem.ClaimSeven
namespace Go.Proofs.YtgbjldkbbbjnkaaDoor
namespace Rows

/-- THE TIED CARD OF 'langdoclaw35.QueryWhere'. -/
def queryWhereCard : Claim7 := { stood := { row := queryWhereRow, standIns := [], harness := (true, "87f5205f35feb5ba6adec76c93a2fb4ae9e5afdf6b1200cce0cba47dd72c928c"), looks := true }, kinds := [], alts := [], laidByText := true, laidKinds := [.data, .data, .data, .pinned], laidTests := true, laidLooks := .later }
def QueryWhereCardSaid : Prop := Claim7.holds Tryd.pinned (.plain (OpenSpec.ofChange queryWhereSpec)) queryWhereCard

/-- THE TIED CARD OF 'langdoclaw35.QueryJoins'. -/
def queryJoinsCard : Claim7 := { stood := { row := queryJoinsRow, standIns := [], harness := (true, "87f5205f35feb5ba6adec76c93a2fb4ae9e5afdf6b1200cce0cba47dd72c928c"), looks := true }, kinds := [], alts := [], laidByText := true, laidKinds := [.data, .data, .data, .pinned], laidTests := true, laidLooks := .later }
def QueryJoinsCardSaid : Prop := Claim7.holds Tryd.pinned (.plain (OpenSpec.ofChange queryJoinsSpec)) queryJoinsCard

/-- THE TIED CARD OF 'langdoclaw35.QueryChecks'. -/
def queryChecksCard : Claim7 := { stood := { row := queryChecksRow, standIns := [], harness := (true, "87f5205f35feb5ba6adec76c93a2fb4ae9e5afdf6b1200cce0cba47dd72c928c"), looks := true }, kinds := [], alts := [], laidByText := true, laidKinds := [.data, .data, .data, .pinned], laidTests := true, laidLooks := .later }
def QueryChecksCardSaid : Prop := Claim7.holds Tryd.pinned (.plain (OpenSpec.ofChange queryChecksSpec)) queryChecksCard

/-- THE TIED CARD OF 'langdoclaw35.QueryPrints'. -/
def queryPrintsCard : Claim7 := { stood := { row := queryPrintsRow, standIns := [], harness := (true, "87f5205f35feb5ba6adec76c93a2fb4ae9e5afdf6b1200cce0cba47dd72c928c"), looks := true }, kinds := [], alts := [], laidByText := true, laidKinds := [.data, .data, .data, .pinned], laidTests := true, laidLooks := .later }
def QueryPrintsCardSaid : Prop := Claim7.holds Tryd.pinned (.plain (OpenSpec.ofChange queryPrintsSpec)) queryPrintsCard

/-- THE TIED CARD OF 'langdoclaw35.QueryParses'. -/
def queryParsesCard : Claim7 := { stood := { row := queryParsesRow, standIns := [], harness := (true, "87f5205f35feb5ba6adec76c93a2fb4ae9e5afdf6b1200cce0cba47dd72c928c"), looks := true }, kinds := [], alts := [], laidByText := true, laidKinds := [.data, .data, .data, .pinned], laidTests := true, laidLooks := .later }
def QueryParsesCardSaid : Prop := Claim7.holds Tryd.pinned (.plain (OpenSpec.ofChange queryParsesSpec)) queryParsesCard

/-- THE TIED CARD OF 'langdoclaw35.QuerySame'. -/
def querySameCard : Claim7 := { stood := { row := querySameRow, standIns := [], harness := (true, "87f5205f35feb5ba6adec76c93a2fb4ae9e5afdf6b1200cce0cba47dd72c928c"), looks := true }, kinds := [], alts := [], laidByText := true, laidKinds := [.data, .data, .data, .pinned], laidTests := true, laidLooks := .later }
def QuerySameCardSaid : Prop := Claim7.holds Tryd.pinned (.plain (OpenSpec.ofChange querySameSpec)) querySameCard

/-- THE TIED CARD OF 'langdoclaw35.QueryBack'. -/
def queryBackCard : Claim7 := { stood := { row := queryBackRow, standIns := [], harness := (true, "87f5205f35feb5ba6adec76c93a2fb4ae9e5afdf6b1200cce0cba47dd72c928c"), looks := true }, kinds := [], alts := [], laidByText := true, laidKinds := [.data, .data, .data, .pinned], laidTests := true, laidLooks := .later }
def QueryBackCardSaid : Prop := Claim7.holds Tryd.pinned (.plain (OpenSpec.ofChange queryBackSpec)) queryBackCard

/-- THE TIED CARD OF 'langdoclaw35.QueryOnly'. -/
def queryOnlyCard : Claim7 := { stood := { row := queryOnlyRow, standIns := [], harness := (true, "87f5205f35feb5ba6adec76c93a2fb4ae9e5afdf6b1200cce0cba47dd72c928c"), looks := true }, kinds := [], alts := [], laidByText := true, laidKinds := [.data, .data, .data, .pinned], laidTests := true, laidLooks := .later }
def QueryOnlyCardSaid : Prop := Claim7.holds Tryd.pinned (.plain (OpenSpec.ofChange queryOnlySpec)) queryOnlyCard

/-- THE TIED CARD OF 'langdoclaw35.QueryCut'. -/
def queryCutCard : Claim7 := { stood := { row := queryCutRow, standIns := [], harness := (true, "87f5205f35feb5ba6adec76c93a2fb4ae9e5afdf6b1200cce0cba47dd72c928c"), looks := true }, kinds := [], alts := [], laidByText := true, laidKinds := [.data, .data, .data, .pinned], laidTests := true, laidLooks := .later }
def QueryCutCardSaid : Prop := Claim7.holds Tryd.pinned (.plain (OpenSpec.ofChange queryCutSpec)) queryCutCard

/-- THE SECOND FORM's CARD OF 'langdoclaw35.QueryWhere'. -/
def queryWhereUptoCard : Claim7 := { stood := { row := queryWhereUptoRow, standIns := [], harness := (true, "87f5205f35feb5ba6adec76c93a2fb4ae9e5afdf6b1200cce0cba47dd72c928c"), looks := true }, kinds := [], alts := [], laidByText := true, laidKinds := [.data, .data, .data, .pinned], laidTests := true, laidLooks := .later }
def QueryWhereUptoCardSaid : Prop := Claim7.holds Tryd.pinned (.plain (OpenSpec.upto queryWhereSpec)) queryWhereUptoCard

/-- THE SECOND FORM's CARD OF 'langdoclaw35.QueryJoins'. -/
def queryJoinsUptoCard : Claim7 := { stood := { row := queryJoinsUptoRow, standIns := [], harness := (true, "87f5205f35feb5ba6adec76c93a2fb4ae9e5afdf6b1200cce0cba47dd72c928c"), looks := true }, kinds := [], alts := [], laidByText := true, laidKinds := [.data, .data, .data, .pinned], laidTests := true, laidLooks := .later }
def QueryJoinsUptoCardSaid : Prop := Claim7.holds Tryd.pinned (.plain (OpenSpec.upto queryJoinsSpec)) queryJoinsUptoCard

/-- THE SECOND FORM's CARD OF 'langdoclaw35.QueryChecks'. -/
def queryChecksUptoCard : Claim7 := { stood := { row := queryChecksUptoRow, standIns := [], harness := (true, "87f5205f35feb5ba6adec76c93a2fb4ae9e5afdf6b1200cce0cba47dd72c928c"), looks := true }, kinds := [], alts := [], laidByText := true, laidKinds := [.data, .data, .data, .pinned], laidTests := true, laidLooks := .later }
def QueryChecksUptoCardSaid : Prop := Claim7.holds Tryd.pinned (.plain (OpenSpec.upto queryChecksSpec)) queryChecksUptoCard

/-- THE SECOND FORM's CARD OF 'langdoclaw35.QueryPrints'. -/
def queryPrintsUptoCard : Claim7 := { stood := { row := queryPrintsUptoRow, standIns := [], harness := (true, "87f5205f35feb5ba6adec76c93a2fb4ae9e5afdf6b1200cce0cba47dd72c928c"), looks := true }, kinds := [], alts := [], laidByText := true, laidKinds := [.data, .data, .data, .pinned], laidTests := true, laidLooks := .later }
def QueryPrintsUptoCardSaid : Prop := Claim7.holds Tryd.pinned (.plain (OpenSpec.upto queryPrintsSpec)) queryPrintsUptoCard

/-- THE SECOND FORM's CARD OF 'langdoclaw35.QueryParses'. -/
def queryParsesUptoCard : Claim7 := { stood := { row := queryParsesUptoRow, standIns := [], harness := (true, "87f5205f35feb5ba6adec76c93a2fb4ae9e5afdf6b1200cce0cba47dd72c928c"), looks := true }, kinds := [], alts := [], laidByText := true, laidKinds := [.data, .data, .data, .pinned], laidTests := true, laidLooks := .later }
def QueryParsesUptoCardSaid : Prop := Claim7.holds Tryd.pinned (.plain (OpenSpec.upto queryParsesSpec)) queryParsesUptoCard

/-- THE SECOND FORM's CARD OF 'langdoclaw35.QuerySame'. -/
def querySameUptoCard : Claim7 := { stood := { row := querySameUptoRow, standIns := [], harness := (true, "87f5205f35feb5ba6adec76c93a2fb4ae9e5afdf6b1200cce0cba47dd72c928c"), looks := true }, kinds := [], alts := [], laidByText := true, laidKinds := [.data, .data, .data, .pinned], laidTests := true, laidLooks := .later }
def QuerySameUptoCardSaid : Prop := Claim7.holds Tryd.pinned (.plain (OpenSpec.upto querySameSpec)) querySameUptoCard

/-- THE SECOND FORM's CARD OF 'langdoclaw35.QueryBack'. -/
def queryBackUptoCard : Claim7 := { stood := { row := queryBackUptoRow, standIns := [], harness := (true, "87f5205f35feb5ba6adec76c93a2fb4ae9e5afdf6b1200cce0cba47dd72c928c"), looks := true }, kinds := [], alts := [], laidByText := true, laidKinds := [.data, .data, .data, .pinned], laidTests := true, laidLooks := .later }
def QueryBackUptoCardSaid : Prop := Claim7.holds Tryd.pinned (.plain (OpenSpec.upto queryBackSpec)) queryBackUptoCard

/-- THE SECOND FORM's CARD OF 'langdoclaw35.QueryOnly'. -/
def queryOnlyUptoCard : Claim7 := { stood := { row := queryOnlyUptoRow, standIns := [], harness := (true, "87f5205f35feb5ba6adec76c93a2fb4ae9e5afdf6b1200cce0cba47dd72c928c"), looks := true }, kinds := [], alts := [], laidByText := true, laidKinds := [.data, .data, .data, .pinned], laidTests := true, laidLooks := .later }
def QueryOnlyUptoCardSaid : Prop := Claim7.holds Tryd.pinned (.plain (OpenSpec.upto queryOnlySpec)) queryOnlyUptoCard

/-- THE SECOND FORM's CARD OF 'langdoclaw35.QueryCut'. -/
def queryCutUptoCard : Claim7 := { stood := { row := queryCutUptoRow, standIns := [], harness := (true, "87f5205f35feb5ba6adec76c93a2fb4ae9e5afdf6b1200cce0cba47dd72c928c"), looks := true }, kinds := [], alts := [], laidByText := true, laidKinds := [.data, .data, .data, .pinned], laidTests := true, laidLooks := .later }
def QueryCutUptoCardSaid : Prop := Claim7.holds Tryd.pinned (.plain (OpenSpec.upto queryCutSpec)) queryCutUptoCard
end Rows
end Go.Proofs.YtgbjldkbbbjnkaaDoor
