/-
  DERIVED. GIVEN WITH THE SEED: THE CARDS: each row of YtclfpjfjebheoaaDoorRows.lean that lists a variable, with what it lists TIED to the program's text (the seventh form; the later family's looks); each row that meets fmt, with fmt's text TOLD by the authors' own Lean function (tested against real Go, not proved from fmt's source: count such statements apart). THE CARD IS WHAT COUNTS. Prove the row's statement (the work); the ties are given (YtclfpjfjebheoaaDoorTie.lean); close each card by the builder's one call (the guide's Derived/Test/ToyasCard.lean, 'card_holds'). Laid BY PROGRAM, IN A SANDBOX (cutbox-door.mjs). By AI agents, Wed Nov 11 2026. No macro, syntax, notation, axiom, sorry.
-/
import Derived.Test.YtclfpjfjebheoaaDoorRows
import GoSem.ClaimSeven
namespace Go.Proofs.YtclfpjfjebheoaaDoor
namespace Rows

/-- THE TIED CARD OF 'bonsailaw30.DiffBack'. -/
def diffBackCard : Claim7 := { stood := { row := diffBackRow, standIns := [], harness := (true, "d1bad81bdf7984c3ce158097c76ba894ff5fadcfe14165169c486dd279971f6a"), looks := false }, kinds := [], alts := [], laidByText := true, laidKinds := [.data, .funcs], laidTests := true, laidLooks := .later }
def DiffBackCardSaid : Prop := Claim7.holds Tryd.pinned (.plain (OpenSpec.ofChange diffBackSpec)) diffBackCard

/-- THE TIED CARD OF 'bonsailaw30.DiffFewest'. -/
def diffFewestCard : Claim7 := { stood := { row := diffFewestRow, standIns := [], harness := (true, "d1bad81bdf7984c3ce158097c76ba894ff5fadcfe14165169c486dd279971f6a"), looks := false }, kinds := [], alts := [], laidByText := true, laidKinds := [.data, .funcs], laidTests := true, laidLooks := .later }
def DiffFewestCardSaid : Prop := Claim7.holds Tryd.pinned (.plain (OpenSpec.ofChange diffFewestSpec)) diffFewestCard

/-- THE TIED CARD OF 'bonsailaw05.ExprBrackets'. -/
def exprBracketsCard : Claim7 := { stood := { row := exprBracketsRow, standIns := [], harness := (true, "d1bad81bdf7984c3ce158097c76ba894ff5fadcfe14165169c486dd279971f6a"), looks := false }, kinds := [], alts := [], laidByText := true, laidKinds := [.data, .funcs], laidTests := true, laidLooks := .later }
def ExprBracketsCardSaid : Prop := Claim7.holds Tryd.pinned (.plain (OpenSpec.ofChange exprBracketsSpec)) exprBracketsCard

/-- THE TIED CARD OF 'bonsailaw05.ExprParts'. -/
def exprPartsCard : Claim7 := { stood := { row := exprPartsRow, standIns := [], harness := (true, "d1bad81bdf7984c3ce158097c76ba894ff5fadcfe14165169c486dd279971f6a"), looks := false }, kinds := [], alts := [], laidByText := true, laidKinds := [.data, .funcs], laidTests := true, laidLooks := .later }
def ExprPartsCardSaid : Prop := Claim7.holds Tryd.pinned (.plain (OpenSpec.ofChange exprPartsSpec)) exprPartsCard

/-- THE TIED CARD OF 'bonsailaw05.ExprPuts'. -/
def exprPutsCard : Claim7 := { stood := { row := exprPutsRow, standIns := [], harness := (true, "d1bad81bdf7984c3ce158097c76ba894ff5fadcfe14165169c486dd279971f6a"), looks := false }, kinds := [], alts := [], laidByText := true, laidKinds := [.data, .funcs], laidTests := true, laidLooks := .later }
def ExprPutsCardSaid : Prop := Claim7.holds Tryd.pinned (.plain (OpenSpec.ofChange exprPutsSpec)) exprPutsCard

/-- THE TIED CARD OF 'bonsailaw05.ExprHead'. -/
def exprHeadCard : Claim7 := { stood := { row := exprHeadRow, standIns := [], harness := (true, "d1bad81bdf7984c3ce158097c76ba894ff5fadcfe14165169c486dd279971f6a"), looks := false }, kinds := [], alts := [], laidByText := true, laidKinds := [.data, .funcs], laidTests := true, laidLooks := .later }
def ExprHeadCardSaid : Prop := Claim7.holds Tryd.pinned (.plain (OpenSpec.ofChange exprHeadSpec)) exprHeadCard

/-- THE TIED CARD OF 'bonsailaw05.ExprNormal'. -/
def exprNormalCard : Claim7 := { stood := { row := exprNormalRow, standIns := [], harness := (true, "d1bad81bdf7984c3ce158097c76ba894ff5fadcfe14165169c486dd279971f6a"), looks := false }, kinds := [], alts := [], laidByText := true, laidKinds := [.data, .funcs], laidTests := true, laidLooks := .later }
def ExprNormalCardSaid : Prop := Claim7.holds Tryd.pinned (.plain (OpenSpec.ofChange exprNormalSpec)) exprNormalCard

/-- THE SECOND FORM's CARD OF 'bonsailaw30.DiffBack'. -/
def diffBackUptoCard : Claim7 := { stood := { row := diffBackUptoRow, standIns := [], harness := (true, "d1bad81bdf7984c3ce158097c76ba894ff5fadcfe14165169c486dd279971f6a"), looks := false }, kinds := [], alts := [], laidByText := true, laidKinds := [.data, .funcs], laidTests := true, laidLooks := .later }
def DiffBackUptoCardSaid : Prop := Claim7.holds Tryd.pinned (.plain (OpenSpec.upto diffBackSpec)) diffBackUptoCard

/-- THE SECOND FORM's CARD OF 'bonsailaw30.DiffFewest'. -/
def diffFewestUptoCard : Claim7 := { stood := { row := diffFewestUptoRow, standIns := [], harness := (true, "d1bad81bdf7984c3ce158097c76ba894ff5fadcfe14165169c486dd279971f6a"), looks := false }, kinds := [], alts := [], laidByText := true, laidKinds := [.data, .funcs], laidTests := true, laidLooks := .later }
def DiffFewestUptoCardSaid : Prop := Claim7.holds Tryd.pinned (.plain (OpenSpec.upto diffFewestSpec)) diffFewestUptoCard

/-- THE SECOND FORM's CARD OF 'bonsailaw05.ExprBrackets'. -/
def exprBracketsUptoCard : Claim7 := { stood := { row := exprBracketsUptoRow, standIns := [], harness := (true, "d1bad81bdf7984c3ce158097c76ba894ff5fadcfe14165169c486dd279971f6a"), looks := false }, kinds := [], alts := [], laidByText := true, laidKinds := [.data, .funcs], laidTests := true, laidLooks := .later }
def ExprBracketsUptoCardSaid : Prop := Claim7.holds Tryd.pinned (.plain (OpenSpec.upto exprBracketsSpec)) exprBracketsUptoCard

/-- THE SECOND FORM's CARD OF 'bonsailaw05.ExprParts'. -/
def exprPartsUptoCard : Claim7 := { stood := { row := exprPartsUptoRow, standIns := [], harness := (true, "d1bad81bdf7984c3ce158097c76ba894ff5fadcfe14165169c486dd279971f6a"), looks := false }, kinds := [], alts := [], laidByText := true, laidKinds := [.data, .funcs], laidTests := true, laidLooks := .later }
def ExprPartsUptoCardSaid : Prop := Claim7.holds Tryd.pinned (.plain (OpenSpec.upto exprPartsSpec)) exprPartsUptoCard

/-- THE SECOND FORM's CARD OF 'bonsailaw05.ExprPuts'. -/
def exprPutsUptoCard : Claim7 := { stood := { row := exprPutsUptoRow, standIns := [], harness := (true, "d1bad81bdf7984c3ce158097c76ba894ff5fadcfe14165169c486dd279971f6a"), looks := false }, kinds := [], alts := [], laidByText := true, laidKinds := [.data, .funcs], laidTests := true, laidLooks := .later }
def ExprPutsUptoCardSaid : Prop := Claim7.holds Tryd.pinned (.plain (OpenSpec.upto exprPutsSpec)) exprPutsUptoCard

/-- THE SECOND FORM's CARD OF 'bonsailaw05.ExprHead'. -/
def exprHeadUptoCard : Claim7 := { stood := { row := exprHeadUptoRow, standIns := [], harness := (true, "d1bad81bdf7984c3ce158097c76ba894ff5fadcfe14165169c486dd279971f6a"), looks := false }, kinds := [], alts := [], laidByText := true, laidKinds := [.data, .funcs], laidTests := true, laidLooks := .later }
def ExprHeadUptoCardSaid : Prop := Claim7.holds Tryd.pinned (.plain (OpenSpec.upto exprHeadSpec)) exprHeadUptoCard

/-- THE SECOND FORM's CARD OF 'bonsailaw05.ExprNormal'. -/
def exprNormalUptoCard : Claim7 := { stood := { row := exprNormalUptoRow, standIns := [], harness := (true, "d1bad81bdf7984c3ce158097c76ba894ff5fadcfe14165169c486dd279971f6a"), looks := false }, kinds := [], alts := [], laidByText := true, laidKinds := [.data, .funcs], laidTests := true, laidLooks := .later }
def ExprNormalUptoCardSaid : Prop := Claim7.holds Tryd.pinned (.plain (OpenSpec.upto exprNormalSpec)) exprNormalUptoCard
end Rows
end Go.Proofs.YtclfpjfjebheoaaDoor
