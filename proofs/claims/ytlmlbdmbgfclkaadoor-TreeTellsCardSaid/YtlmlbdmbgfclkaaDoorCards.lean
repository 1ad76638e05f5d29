/-
  DERIVED. GIVEN WITH THE SEED: THE CARDS: each row of YtlmlbdmbgfclkaaDoorRows.lean that lists a variable, with what it lists TIED to the program's text (the seventh form; the later family's looks); each row that meets fmt, with fmt's text TOLD by the authors' own Lean function (tested against real Go, not proved from fmt's source: count such statements apart). THE CARD IS WHAT COUNTS. Prove the row's statement (the work); the ties are given (YtlmlbdmbgfclkaaDoorTie.lean); close each card by the builder's one call (the guide's Derived/Test/ToyasCard.lean, 'card_holds'). Laid BY PROGRAM, IN A SANDBOX (cutbox-door.mjs). By AI agents, Wed Nov 11 2026. No macro, syntax, notation, axiom, sorry.
-/
import Derived.Test.YtlmlbdmbgfclkaaDoorRows
import GoSem.ClaimSeven
namespace Go.Proofs.YtlmlbdmbgfclkaaDoor
namespace Rows

/-- THE TIED CARD OF 'bonsailaw04.TreeRow'. -/
def treeRowCard : Claim7 := { stood := { row := treeRowRow, standIns := [], harness := (true, "ebf2f651fe7e4e1ed6f82e30aea52584f51b126bd4a8da6f8cfee4f22bfa7bb3"), looks := false }, kinds := [], alts := [], laidByText := true, laidKinds := [.data], laidTests := true, laidLooks := .later }
def TreeRowCardSaid : Prop := Claim7.holds Tryd.pinned (.plain (OpenSpec.ofChange treeRowSpec)) treeRowCard

/-- THE TIED CARD OF 'bonsailaw04.TreeSame'. -/
def treeSameCard : Claim7 := { stood := { row := treeSameRow, standIns := [], harness := (true, "ebf2f651fe7e4e1ed6f82e30aea52584f51b126bd4a8da6f8cfee4f22bfa7bb3"), looks := false }, kinds := [], alts := [], laidByText := true, laidKinds := [.data], laidTests := true, laidLooks := .later }
def TreeSameCardSaid : Prop := Claim7.holds Tryd.pinned (.plain (OpenSpec.ofChange treeSameSpec)) treeSameCard

/-- THE TIED CARD OF 'bonsailaw04.TreeNames'. -/
def treeNamesCard : Claim7 := { stood := { row := treeNamesRow, standIns := [], harness := (true, "ebf2f651fe7e4e1ed6f82e30aea52584f51b126bd4a8da6f8cfee4f22bfa7bb3"), looks := false }, kinds := [], alts := [], laidByText := true, laidKinds := [.data], laidTests := true, laidLooks := .later }
def TreeNamesCardSaid : Prop := Claim7.holds Tryd.pinned (.plain (OpenSpec.ofChange treeNamesSpec)) treeNamesCard

/-- THE TIED CARD OF 'bonsailaw04.TreeTells'. -/
def treeTellsCard : Claim7 := { stood := { row := treeTellsRow, standIns := [], harness := (true, "ebf2f651fe7e4e1ed6f82e30aea52584f51b126bd4a8da6f8cfee4f22bfa7bb3"), looks := false }, kinds := [], alts := [], laidByText := true, laidKinds := [.data], laidTests := true, laidLooks := .later }
def TreeTellsCardSaid : Prop := Claim7.holds Tryd.pinned (.plain (OpenSpec.ofChange treeTellsSpec)) treeTellsCard

/-- THE TIED CARD OF 'bonsailaw04.TreeBack'. -/
def treeBackCard : Claim7 := { stood := { row := treeBackRow, standIns := [], harness := (true, "ebf2f651fe7e4e1ed6f82e30aea52584f51b126bd4a8da6f8cfee4f22bfa7bb3"), looks := false }, kinds := [], alts := [], laidByText := true, laidKinds := [.data], laidTests := true, laidLooks := .later }
def TreeBackCardSaid : Prop := Claim7.holds Tryd.pinned (.plain (OpenSpec.ofChange treeBackSpec)) treeBackCard

/-- THE SECOND FORM's CARD OF 'bonsailaw04.TreeRow'. -/
def treeRowUptoCard : Claim7 := { stood := { row := treeRowUptoRow, standIns := [], harness := (true, "ebf2f651fe7e4e1ed6f82e30aea52584f51b126bd4a8da6f8cfee4f22bfa7bb3"), looks := false }, kinds := [], alts := [], laidByText := true, laidKinds := [.data], laidTests := true, laidLooks := .later }
def TreeRowUptoCardSaid : Prop := Claim7.holds Tryd.pinned (.plain (OpenSpec.upto treeRowSpec)) treeRowUptoCard

/-- THE SECOND FORM's CARD OF 'bonsailaw04.TreeSame'. -/
def treeSameUptoCard : Claim7 := { stood := { row := treeSameUptoRow, standIns := [], harness := (true, "ebf2f651fe7e4e1ed6f82e30aea52584f51b126bd4a8da6f8cfee4f22bfa7bb3"), looks := false }, kinds := [], alts := [], laidByText := true, laidKinds := [.data], laidTests := true, laidLooks := .later }
def TreeSameUptoCardSaid : Prop := Claim7.holds Tryd.pinned (.plain (OpenSpec.upto treeSameSpec)) treeSameUptoCard

/-- THE SECOND FORM's CARD OF 'bonsailaw04.TreeNames'. -/
def treeNamesUptoCard : Claim7 := { stood := { row := treeNamesUptoRow, standIns := [], harness := (true, "ebf2f651fe7e4e1ed6f82e30aea52584f51b126bd4a8da6f8cfee4f22bfa7bb3"), looks := false }, kinds := [], alts := [], laidByText := true, laidKinds := [.data], laidTests := true, laidLooks := .later }
def TreeNamesUptoCardSaid : Prop := Claim7.holds Tryd.pinned (.plain (OpenSpec.upto treeNamesSpec)) treeNamesUptoCard

/-- THE SECOND FORM's CARD OF 'bonsailaw04.TreeTells'. -/
def treeTellsUptoCard : Claim7 := { stood := { row := treeTellsUptoRow, standIns := [], harness := (true, "ebf2f651fe7e4e1ed6f82e30aea52584f51b126bd4a8da6f8cfee4f22bfa7bb3"), looks := false }, kinds := [], alts := [], laidByText := true, laidKinds := [.data], laidTests := true, laidLooks := .later }
def TreeTellsUptoCardSaid : Prop := Claim7.holds Tryd.pinned (.plain (OpenSpec.upto treeTellsSpec)) treeTellsUptoCard

/-- THE SECOND FORM's CARD OF 'bonsailaw04.TreeBack'. -/
def treeBackUptoCard : Claim7 := { stood := { row := treeBackUptoRow, standIns := [], harness := (true, "ebf2f651fe7e4e1ed6f82e30aea52584f51b126bd4a8da6f8cfee4f22bfa7bb3"), looks := false }, kinds := [], alts := [], laidByText := true, laidKinds := [.data], laidTests := true, laidLooks := .later }
def TreeBackUptoCardSaid : Prop := Claim7.holds Tryd.pinned (.plain (OpenSpec.upto treeBackSpec)) treeBackUptoCard
end Rows
end Go.Proofs.YtlmlbdmbgfclkaaDoor
