/-
  DERIVED. GIVEN WITH THE SEED: THE CARDS: each row of YtjichaeegheacaaGreatDoorRows.lean that lists a variable, with what it lists TIED to the program's text (the seventh form; the later family's looks); each row that meets fmt, with fmt's text TOLD by the authors' own Lean function (tested against real Go, not proved from fmt's source: count such statements apart). THE CARD IS WHAT COUNTS. Prove the row's statement (the work); the ties are given (YtjichaeegheacaaGreatDoorTie.lean); close each card by the builder's one call (the guide's Derived/Test/ToyasCard.lean, 'card_holds'). Laid BY PROGRAM, IN A SANDBOX (cutbox-door.mjs). By AI agents, Wed Nov 11 2026. No macro, syntax, notation, axiom, sorry.
-/
import Derived.Test.YtjichaeegheacaaGreatDoorRows
import GoSem.ClaimSeven
namespace Go.Proofs.YtjichaeegheacaaGreatDoor
namespace Rows

/-- THE TIED CARD OF 'intarsialaw10.FlowTells'. -/
def flowTellsCard : Claim7 := { stood := { row := flowTellsRow, standIns := [], harness := (true, "3f9fe2ab2edc1dfc5abfbf19da94707e905dfed20bec242249868c504549d58f"), looks := false }, kinds := [], alts := [], laidByText := true, laidKinds := [.data], laidTests := true, laidLooks := .later }
def FlowTellsCardSaid : Prop := Claim7.holds Tryz.pinned (.plain (OpenSpec.ofChange flowTellsSpec)) flowTellsCard

/-- THE TIED CARD OF 'intarsialaw10.FlowGraphs'. -/
def flowGraphsCard : Claim7 := { stood := { row := flowGraphsRow, standIns := [], harness := (true, "3f9fe2ab2edc1dfc5abfbf19da94707e905dfed20bec242249868c504549d58f"), looks := false }, kinds := [], alts := [], laidByText := true, laidKinds := [.data], laidTests := true, laidLooks := .later }
def FlowGraphsCardSaid : Prop := Claim7.holds Tryz.pinned (.plain (OpenSpec.ofChange flowGraphsSpec)) flowGraphsCard

/-- THE TIED CARD OF 'intarsialaw11.DomTells'. -/
def domTellsCard : Claim7 := { stood := { row := domTellsRow, standIns := [], harness := (true, "3f9fe2ab2edc1dfc5abfbf19da94707e905dfed20bec242249868c504549d58f"), looks := false }, kinds := [], alts := [], laidByText := true, laidKinds := [.data], laidTests := true, laidLooks := .later }
def DomTellsCardSaid : Prop := Claim7.holds Tryz.pinned (.plain (OpenSpec.ofChange domTellsSpec)) domTellsCard

/-- THE TIED CARD OF 'intarsialaw11.DomGraphs'. -/
def domGraphsCard : Claim7 := { stood := { row := domGraphsRow, standIns := [], harness := (true, "3f9fe2ab2edc1dfc5abfbf19da94707e905dfed20bec242249868c504549d58f"), looks := false }, kinds := [], alts := [], laidByText := true, laidKinds := [.data], laidTests := true, laidLooks := .later }
def DomGraphsCardSaid : Prop := Claim7.holds Tryz.pinned (.plain (OpenSpec.ofChange domGraphsSpec)) domGraphsCard

/-- THE SECOND FORM's CARD OF 'intarsialaw10.FlowTells'. -/
def flowTellsUptoCard : Claim7 := { stood := { row := flowTellsUptoRow, standIns := [], harness := (true, "3f9fe2ab2edc1dfc5abfbf19da94707e905dfed20bec242249868c504549d58f"), looks := false }, kinds := [], alts := [], laidByText := true, laidKinds := [.data], laidTests := true, laidLooks := .later }
def FlowTellsUptoCardSaid : Prop := Claim7.holds Tryz.pinned (.plain (OpenSpec.upto flowTellsSpec)) flowTellsUptoCard

/-- THE SECOND FORM's CARD OF 'intarsialaw10.FlowGraphs'. -/
def flowGraphsUptoCard : Claim7 := { stood := { row := flowGraphsUptoRow, standIns := [], harness := (true, "3f9fe2ab2edc1dfc5abfbf19da94707e905dfed20bec242249868c504549d58f"), looks := false }, kinds := [], alts := [], laidByText := true, laidKinds := [.data], laidTests := true, laidLooks := .later }
def FlowGraphsUptoCardSaid : Prop := Claim7.holds Tryz.pinned (.plain (OpenSpec.upto flowGraphsSpec)) flowGraphsUptoCard

/-- THE SECOND FORM's CARD OF 'intarsialaw11.DomTells'. -/
def domTellsUptoCard : Claim7 := { stood := { row := domTellsUptoRow, standIns := [], harness := (true, "3f9fe2ab2edc1dfc5abfbf19da94707e905dfed20bec242249868c504549d58f"), looks := false }, kinds := [], alts := [], laidByText := true, laidKinds := [.data], laidTests := true, laidLooks := .later }
def DomTellsUptoCardSaid : Prop := Claim7.holds Tryz.pinned (.plain (OpenSpec.upto domTellsSpec)) domTellsUptoCard

/-- THE SECOND FORM's CARD OF 'intarsialaw11.DomGraphs'. -/
def domGraphsUptoCard : Claim7 := { stood := { row := domGraphsUptoRow, standIns := [], harness := (true, "3f9fe2ab2edc1dfc5abfbf19da94707e905dfed20bec242249868c504549d58f"), looks := false }, kinds := [], alts := [], laidByText := true, laidKinds := [.data], laidTests := true, laidLooks := .later }
def DomGraphsUptoCardSaid : Prop := Claim7.holds Tryz.pinned (.plain (OpenSpec.upto domGraphsSpec)) domGraphsUptoCard
end Rows
end Go.Proofs.YtjichaeegheacaaGreatDoor
