/-
  DERIVED. GIVEN WITH THE SEED: THE CARDS: each row of YtoechdnhgkelfaaDoorRows.lean that lists a variable, with what it lists TIED to the program's text (the seventh form; the later family's looks); each row that meets fmt, with fmt's text TOLD by the authors' own Lean function (tested against real Go, not proved from fmt's source: count such statements apart). THE CARD IS WHAT COUNTS. Prove the row's statement (the work); the ties are given (YtoechdnhgkelfaaDoorTie.lean); close each card by the builder's one call (the guide's Derived/Test/ToyasCard.lean, 'card_holds'). Laid BY PROGRAM, IN A SANDBOX (cutbox-door.mjs). By AI agents, Wed Nov 11 2026. No macro, syntax, notation, axiom, sorry.
-/
import Derived.Test.YtoechdnhgkelfaaDoorRows
import GoSem.ClaimSeven
namespace Go.Proofs.YtoechdnhgkelfaaDoor
namespace Rows

/-- THE TIED CARD OF 'langdoclaw17.OrthoCheck'. -/
def orthoCheckCard : Claim7 := { stood := { row := orthoCheckRow, standIns := [], harness := (true, "0bfe328a001f1f92de33d52cdba496ebc34e0fd2be5e7ad1d04c2b81d480e825"), looks := false }, kinds := [], alts := [], laidByText := true, laidKinds := [.data, .pinned], laidTests := true, laidLooks := .later }
def OrthoCheckCardSaid : Prop := Claim7.holds Tryd.pinned (.plain (OpenSpec.ofChange orthoCheckSpec)) orthoCheckCard

/-- THE TIED CARD OF 'langdoclaw17.OrthoReads'. -/
def orthoReadsCard : Claim7 := { stood := { row := orthoReadsRow, standIns := [], harness := (true, "0bfe328a001f1f92de33d52cdba496ebc34e0fd2be5e7ad1d04c2b81d480e825"), looks := false }, kinds := [], alts := [], laidByText := true, laidKinds := [.data, .pinned], laidTests := true, laidLooks := .later }
def OrthoReadsCardSaid : Prop := Claim7.holds Tryd.pinned (.plain (OpenSpec.ofChange orthoReadsSpec)) orthoReadsCard

/-- THE TIED CARD OF 'langdoclaw17.OrthoSpells'. -/
def orthoSpellsCard : Claim7 := { stood := { row := orthoSpellsRow, standIns := [], harness := (true, "0bfe328a001f1f92de33d52cdba496ebc34e0fd2be5e7ad1d04c2b81d480e825"), looks := false }, kinds := [], alts := [], laidByText := true, laidKinds := [.data, .pinned], laidTests := true, laidLooks := .later }
def OrthoSpellsCardSaid : Prop := Claim7.holds Tryd.pinned (.plain (OpenSpec.ofChange orthoSpellsSpec)) orthoSpellsCard

/-- THE TIED CARD OF 'langdoclaw17.OrthoDivides'. -/
def orthoDividesCard : Claim7 := { stood := { row := orthoDividesRow, standIns := [], harness := (true, "0bfe328a001f1f92de33d52cdba496ebc34e0fd2be5e7ad1d04c2b81d480e825"), looks := false }, kinds := [], alts := [], laidByText := true, laidKinds := [.data, .pinned], laidTests := true, laidLooks := .later }
def OrthoDividesCardSaid : Prop := Claim7.holds Tryd.pinned (.plain (OpenSpec.ofChange orthoDividesSpec)) orthoDividesCard

/-- THE TIED CARD OF 'langdoclaw17.OrthoSums'. -/
def orthoSumsCard : Claim7 := { stood := { row := orthoSumsRow, standIns := [], harness := (true, "0bfe328a001f1f92de33d52cdba496ebc34e0fd2be5e7ad1d04c2b81d480e825"), looks := false }, kinds := [], alts := [], laidByText := true, laidKinds := [.data, .pinned], laidTests := true, laidLooks := .later }
def OrthoSumsCardSaid : Prop := Claim7.holds Tryd.pinned (.plain (OpenSpec.ofChange orthoSumsSpec)) orthoSumsCard

/-- THE TIED CARD OF 'langdoclaw17.OrthoExact'. -/
def orthoExactCard : Claim7 := { stood := { row := orthoExactRow, standIns := [], harness := (true, "0bfe328a001f1f92de33d52cdba496ebc34e0fd2be5e7ad1d04c2b81d480e825"), looks := false }, kinds := [], alts := [], laidByText := true, laidKinds := [.data, .pinned], laidTests := true, laidLooks := .later }
def OrthoExactCardSaid : Prop := Claim7.holds Tryd.pinned (.plain (OpenSpec.ofChange orthoExactSpec)) orthoExactCard

/-- THE TIED CARD OF 'langdoclaw17.OrthoAdds'. -/
def orthoAddsCard : Claim7 := { stood := { row := orthoAddsRow, standIns := [], harness := (true, "0bfe328a001f1f92de33d52cdba496ebc34e0fd2be5e7ad1d04c2b81d480e825"), looks := false }, kinds := [], alts := [], laidByText := true, laidKinds := [.data, .pinned], laidTests := true, laidLooks := .later }
def OrthoAddsCardSaid : Prop := Claim7.holds Tryd.pinned (.plain (OpenSpec.ofChange orthoAddsSpec)) orthoAddsCard

/-- THE SECOND FORM's CARD OF 'langdoclaw17.OrthoCheck'. -/
def orthoCheckUptoCard : Claim7 := { stood := { row := orthoCheckUptoRow, standIns := [], harness := (true, "0bfe328a001f1f92de33d52cdba496ebc34e0fd2be5e7ad1d04c2b81d480e825"), looks := false }, kinds := [], alts := [], laidByText := true, laidKinds := [.data, .pinned], laidTests := true, laidLooks := .later }
def OrthoCheckUptoCardSaid : Prop := Claim7.holds Tryd.pinned (.plain (OpenSpec.upto orthoCheckSpec)) orthoCheckUptoCard

/-- THE SECOND FORM's CARD OF 'langdoclaw17.OrthoReads'. -/
def orthoReadsUptoCard : Claim7 := { stood := { row := orthoReadsUptoRow, standIns := [], harness := (true, "0bfe328a001f1f92de33d52cdba496ebc34e0fd2be5e7ad1d04c2b81d480e825"), looks := false }, kinds := [], alts := [], laidByText := true, laidKinds := [.data, .pinned], laidTests := true, laidLooks := .later }
def OrthoReadsUptoCardSaid : Prop := Claim7.holds Tryd.pinned (.plain (OpenSpec.upto orthoReadsSpec)) orthoReadsUptoCard

/-- THE SECOND FORM's CARD OF 'langdoclaw17.OrthoSpells'. -/
def orthoSpellsUptoCard : Claim7 := { stood := { row := orthoSpellsUptoRow, standIns := [], harness := (true, "0bfe328a001f1f92de33d52cdba496ebc34e0fd2be5e7ad1d04c2b81d480e825"), looks := false }, kinds := [], alts := [], laidByText := true, laidKinds := [.data, .pinned], laidTests := true, laidLooks := .later }
def OrthoSpellsUptoCardSaid : Prop := Claim7.holds Tryd.pinned (.plain (OpenSpec.upto orthoSpellsSpec)) orthoSpellsUptoCard

/-- THE SECOND FORM's CARD OF 'langdoclaw17.OrthoDivides'. -/
def orthoDividesUptoCard : Claim7 := { stood := { row := orthoDividesUptoRow, standIns := [], harness := (true, "0bfe328a001f1f92de33d52cdba496ebc34e0fd2be5e7ad1d04c2b81d480e825"), looks := false }, kinds := [], alts := [], laidByText := true, laidKinds := [.data, .pinned], laidTests := true, laidLooks := .later }
def OrthoDividesUptoCardSaid : Prop := Claim7.holds Tryd.pinned (.plain (OpenSpec.upto orthoDividesSpec)) orthoDividesUptoCard

/-- THE SECOND FORM's CARD OF 'langdoclaw17.OrthoSums'. -/
def orthoSumsUptoCard : Claim7 := { stood := { row := orthoSumsUptoRow, standIns := [], harness := (true, "0bfe328a001f1f92de33d52cdba496ebc34e0fd2be5e7ad1d04c2b81d480e825"), looks := false }, kinds := [], alts := [], laidByText := true, laidKinds := [.data, .pinned], laidTests := true, laidLooks := .later }
def OrthoSumsUptoCardSaid : Prop := Claim7.holds Tryd.pinned (.plain (OpenSpec.upto orthoSumsSpec)) orthoSumsUptoCard

/-- THE SECOND FORM's CARD OF 'langdoclaw17.OrthoExact'. -/
def orthoExactUptoCard : Claim7 := { stood := { row := orthoExactUptoRow, standIns := [], harness := (true, "0bfe328a001f1f92de33d52cdba496ebc34e0fd2be5e7ad1d04c2b81d480e825"), looks := false }, kinds := [], alts := [], laidByText := true, laidKinds := [.data, .pinned], laidTests := true, laidLooks := .later }
def OrthoExactUptoCardSaid : Prop := Claim7.holds Tryd.pinned (.plain (OpenSpec.upto orthoExactSpec)) orthoExactUptoCard

/-- THE SECOND FORM's CARD OF 'langdoclaw17.OrthoAdds'. -/
def orthoAddsUptoCard : Claim7 := { stood := { row := orthoAddsUptoRow, standIns := [], harness := (true, "0bfe328a001f1f92de33d52cdba496ebc34e0fd2be5e7ad1d04c2b81d480e825"), looks := false }, kinds := [], alts := [], laidByText := true, laidKinds := [.data, .pinned], laidTests := true, laidLooks := .later }
def OrthoAddsUptoCardSaid : Prop := Claim7.holds Tryd.pinned (.plain (OpenSpec.upto orthoAddsSpec)) orthoAddsUptoCard
end Rows
end Go.Proofs.YtoechdnhgkelfaaDoor
