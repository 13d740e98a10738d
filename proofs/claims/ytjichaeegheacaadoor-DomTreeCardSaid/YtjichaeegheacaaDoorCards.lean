/-
  DERIVED. GIVEN WITH THE SEED: THE CARDS: each row of YtjichaeegheacaaDoorRows.lean that lists a variable, with what it lists TIED to the program's text (the seventh form; the later family's looks); each row that meets fmt, with fmt's text TOLD by the authors' own Lean function (tested against real Go, not proved from fmt's source: count such statements apart). THE CARD IS WHAT COUNTS. Prove the row's statement (the work); the ties are given (YtjichaeegheacaaDoorTie.lean); close each card by the builder's one call (the guide's Derived/Test/ToyasCard.lean, 'card_holds'). Laid BY PROGRAM, IN A SANDBOX (cutbox-door.mjs). By AI agents, Wed Nov 11 2026. No macro, syntax, notation, axiom, sorry.
-/
import Derived.Test.YtjichaeegheacaaDoorRows
import GoSem.ClaimSeven
namespace Go.Proofs.YtjichaeegheacaaDoor
namespace Rows

/-- THE TIED CARD OF 'intarsialaw15.BitsTurn'. -/
def bitsTurnCard : Claim7 := { stood := { row := bitsTurnRow, standIns := [], harness := (true, "adbdec43d63f0ae2821666ef11452de19f975966a548958786f025273040c17d"), looks := false }, kinds := [], alts := [], laidByText := true, laidKinds := [.data], laidTests := true, laidLooks := .later }
def BitsTurnCardSaid : Prop := Claim7.holds Tryd.pinned (.plain (OpenSpec.ofChange bitsTurnSpec)) bitsTurnCard

/-- THE TIED CARD OF 'intarsialaw15.BitsLaws'. -/
def bitsLawsCard : Claim7 := { stood := { row := bitsLawsRow, standIns := [], harness := (true, "adbdec43d63f0ae2821666ef11452de19f975966a548958786f025273040c17d"), looks := false }, kinds := [], alts := [], laidByText := true, laidKinds := [.data], laidTests := true, laidLooks := .later }
def BitsLawsCardSaid : Prop := Claim7.holds Tryd.pinned (.plain (OpenSpec.ofChange bitsLawsSpec)) bitsLawsCard

/-- THE TIED CARD OF 'intarsialaw10.FlowOrder'. -/
def flowOrderCard : Claim7 := { stood := { row := flowOrderRow, standIns := [], harness := (true, "adbdec43d63f0ae2821666ef11452de19f975966a548958786f025273040c17d"), looks := false }, kinds := [], alts := [], laidByText := true, laidKinds := [.data], laidTests := true, laidLooks := .later }
def FlowOrderCardSaid : Prop := Claim7.holds Tryd.pinned (.plain (OpenSpec.ofChange flowOrderSpec)) flowOrderCard

/-- THE TIED CARD OF 'intarsialaw10.FlowCounts'. -/
def flowCountsCard : Claim7 := { stood := { row := flowCountsRow, standIns := [], harness := (true, "adbdec43d63f0ae2821666ef11452de19f975966a548958786f025273040c17d"), looks := false }, kinds := [], alts := [], laidByText := true, laidKinds := [.data], laidTests := true, laidLooks := .later }
def FlowCountsCardSaid : Prop := Claim7.holds Tryd.pinned (.plain (OpenSpec.ofChange flowCountsSpec)) flowCountsCard

/-- THE TIED CARD OF 'intarsialaw11.DomTree'. -/
def domTreeCard : Claim7 := { stood := { row := domTreeRow, standIns := [], harness := (true, "adbdec43d63f0ae2821666ef11452de19f975966a548958786f025273040c17d"), looks := false }, kinds := [], alts := [], laidByText := true, laidKinds := [.data], laidTests := true, laidLooks := .later }
def DomTreeCardSaid : Prop := Claim7.holds Tryd.pinned (.plain (OpenSpec.ofChange domTreeSpec)) domTreeCard

/-- THE SECOND FORM's CARD OF 'intarsialaw15.BitsTurn'. -/
def bitsTurnUptoCard : Claim7 := { stood := { row := bitsTurnUptoRow, standIns := [], harness := (true, "adbdec43d63f0ae2821666ef11452de19f975966a548958786f025273040c17d"), looks := false }, kinds := [], alts := [], laidByText := true, laidKinds := [.data], laidTests := true, laidLooks := .later }
def BitsTurnUptoCardSaid : Prop := Claim7.holds Tryd.pinned (.plain (OpenSpec.upto bitsTurnSpec)) bitsTurnUptoCard

/-- THE SECOND FORM's CARD OF 'intarsialaw15.BitsLaws'. -/
def bitsLawsUptoCard : Claim7 := { stood := { row := bitsLawsUptoRow, standIns := [], harness := (true, "adbdec43d63f0ae2821666ef11452de19f975966a548958786f025273040c17d"), looks := false }, kinds := [], alts := [], laidByText := true, laidKinds := [.data], laidTests := true, laidLooks := .later }
def BitsLawsUptoCardSaid : Prop := Claim7.holds Tryd.pinned (.plain (OpenSpec.upto bitsLawsSpec)) bitsLawsUptoCard

/-- THE SECOND FORM's CARD OF 'intarsialaw10.FlowOrder'. -/
def flowOrderUptoCard : Claim7 := { stood := { row := flowOrderUptoRow, standIns := [], harness := (true, "adbdec43d63f0ae2821666ef11452de19f975966a548958786f025273040c17d"), looks := false }, kinds := [], alts := [], laidByText := true, laidKinds := [.data], laidTests := true, laidLooks := .later }
def FlowOrderUptoCardSaid : Prop := Claim7.holds Tryd.pinned (.plain (OpenSpec.upto flowOrderSpec)) flowOrderUptoCard

/-- THE SECOND FORM's CARD OF 'intarsialaw10.FlowCounts'. -/
def flowCountsUptoCard : Claim7 := { stood := { row := flowCountsUptoRow, standIns := [], harness := (true, "adbdec43d63f0ae2821666ef11452de19f975966a548958786f025273040c17d"), looks := false }, kinds := [], alts := [], laidByText := true, laidKinds := [.data], laidTests := true, laidLooks := .later }
def FlowCountsUptoCardSaid : Prop := Claim7.holds Tryd.pinned (.plain (OpenSpec.upto flowCountsSpec)) flowCountsUptoCard

/-- THE SECOND FORM's CARD OF 'intarsialaw11.DomTree'. -/
def domTreeUptoCard : Claim7 := { stood := { row := domTreeUptoRow, standIns := [], harness := (true, "adbdec43d63f0ae2821666ef11452de19f975966a548958786f025273040c17d"), looks := false }, kinds := [], alts := [], laidByText := true, laidKinds := [.data], laidTests := true, laidLooks := .later }
def DomTreeUptoCardSaid : Prop := Claim7.holds Tryd.pinned (.plain (OpenSpec.upto domTreeSpec)) domTreeUptoCard
end Rows
end Go.Proofs.YtjichaeegheacaaDoor
