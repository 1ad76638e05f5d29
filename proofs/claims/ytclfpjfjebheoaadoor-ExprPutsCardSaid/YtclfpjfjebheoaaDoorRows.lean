/-
  NARROWER THAN 'FOR EVERY INPUT', by the rows' own cells (each row's printed sentence says how): DiffBack: laid · DiffFewest: laid · ExprBrackets: laid · ExprParts: laid · ExprPuts: laid · ExprHead: laid · ExprNormal: laid.
  DERIVED. THE GIVEN ROWS OF THIS SEAT. 7 by the template 'for every input the law returns true; each argument reads behind the call as it read before'; 0 by the template 'total and deterministic' (their statements: YtclfpjfjebheoaaDoorTotals.lean).
  GIVEN WITH THE SEED: the statements are not yours to turn. If you find one false, say at which input.
  Laid BY PROGRAM, IN A SANDBOX (cutbox-rows.mjs): the forced cells as the released guide's own fill.sh prints them over the translation 3fa26f190636c149… (all of the seat's roots in one cut). By AI agents, Wed Nov 11 2026. No macro, syntax, notation, axiom, sorry.
-/
import Derived.Test.YtclfpjfjebheoaaDoorChecked
import GoSem.Claim
import GoSem.ClaimJoined
import GoSem.ClaimMapViews
import Derived.JoinedTies
import Derived.KernelRfl
namespace Go.Proofs.YtclfpjfjebheoaaDoor
/- THE CELL 'sum', in the pinned program and in every row, IS THE sha256 OF THE DUMP (.gsa) THAT YtclfpjfjebheoaaDoorProg.lean LOADS. Nothing in Lean hashes anything: it is a label: what it is worth is what the hold of that sum in a sandbox is worth. -/
noncomputable def Tryd.pinned : Pinned := { name := "ytclfpjfjebheoaadoor", sum := "3fa26f190636c149dc6d7caabe95282e207fbb482ae2fb7e8d9cde96864a55c7", checked := Tryd.checked }
namespace Rows
def none {H : Type} : Left H := { results := [], args := [] }

/- WHAT THE LISTED PACKAGE-LEVEL VARIABLES READ AS WHEN THE CALL BEGINS. Each datum BY PROGRAM (the guide's laid-datum.mjs) off the statement by which the dump's own 'gosem.cut.vars' lays the variable. In a bare row this is a premise. The card (YtclfpjfjebheoaaDoorCards.lean) ties it to the program's text. -/
def laid_bonsai_tree_kids {H : Type} : DataW H := .agg [.agg [.lit (.int .i64 0), .lit (.int .i64 0)], .agg [.lit (.int .i64 0), .lit (.int .i64 0)], .agg [.lit (.int .i64 0), .lit (.int .i64 0)], .agg [.lit (.int .i64 0), .lit (.int .i64 0)], .agg [.lit (.int .i64 2), .lit (.int .i64 (-1))], .agg [.lit (.int .i64 2), .lit (.int .i64 (-1))], .agg [.lit (.int .i64 1), .lit (.int .i64 1)], .agg [.lit (.int .i64 1), .lit (.int .i64 1)], .agg [.lit (.int .i64 1), .lit (.int .i64 1)], .agg [.lit (.int .i64 1), .lit (.int .i64 1)]]
def laid_bonsai_diff_does {H : Type} : DataW H := .iface "func table" (.agg [.iface "func" (.lit (.string [98, 111, 110, 115, 97, 105, 47, 100, 105, 102, 102, 46, 100, 111, 101, 115, 36, 49])), .iface "func" (.lit (.string [98, 111, 110, 115, 97, 105, 47, 100, 105, 102, 102, 46, 100, 111, 101, 115, 36, 50])), .iface "func" (.lit (.string [98, 111, 110, 115, 97, 105, 47, 100, 105, 102, 102, 46, 100, 111, 101, 115, 36, 51]))])
def laid_bonsai_expr_together {H : Type} : DataW H := .iface "func table" (.agg [.iface "func" (.lit (.string [98, 111, 110, 115, 97, 105, 47, 116, 114, 101, 101, 46, 79, 102])), .iface "func" (.lit (.string [98, 111, 110, 115, 97, 105, 47, 116, 114, 101, 101, 46, 79, 102])), .iface "func" (.lit (.string [98, 111, 110, 115, 97, 105, 47, 116, 114, 101, 101, 46, 79, 102])), .iface "func" (.lit (.string [98, 111, 110, 115, 97, 105, 47, 116, 114, 101, 101, 46, 79, 102])), .iface "func" (.lit (.string [98, 111, 110, 115, 97, 105, 47, 101, 120, 112, 114, 46, 116, 111, 103, 101, 116, 104, 101, 114, 36, 49])), .iface "func" (.lit (.string [98, 111, 110, 115, 97, 105, 47, 101, 120, 112, 114, 46, 116, 111, 103, 101, 116, 104, 101, 114, 36, 50])), .iface "func" (.lit (.string [98, 111, 110, 115, 97, 105, 47, 116, 114, 101, 101, 46, 79, 102])), .iface "func" (.lit (.string [98, 111, 110, 115, 97, 105, 47, 116, 114, 101, 101, 46, 79, 102])), .iface "func" (.lit (.string [98, 111, 110, 115, 97, 105, 47, 116, 114, 101, 101, 46, 79, 102])), .iface "func" (.lit (.string [98, 111, 110, 115, 97, 105, 47, 116, 114, 101, 101, 46, 79, 102]))])

/-- 'bonsailaw30.DiffBack': WHATEVER THE INPUT: true; the input reads as it did. -/
def diffBackSpec : ChangeSpec := { name := "diffBack", fn := fun _ => fun
  | [d1, d2] => { results := [.lit (.bool true)], args := [d1, d2] }
  | _ => none }
def diffBackRow : OpenClaim := { program := "ytclfpjfjebheoaadoor", sum := "3fa26f190636c149dc6d7caabe95282e207fbb482ae2fb7e8d9cde96864a55c7", func := "bonsai/bonsailaw30.DiffBack", spec := "diffBack", unfollowed := true, recurses := true, named := ["bonsai/diff.does", "bonsai/tree.kids"], apart := false, laid := [("bonsai/tree.kids", laid_bonsai_tree_kids), ("bonsai/diff.does", laid_bonsai_diff_does)] }
def DiffBackSaid : Prop := diffBackRow.holds Tryd.pinned (OpenSpec.ofChange diffBackSpec)

/-- ITS FALSE NEIGHBOUR: 'it returns false'. Refute it at one input. -/
def diffBackWrong : ChangeSpec := { name := "diffBack", fn := fun _ => fun
  | [d1, d2] => { results := [.lit (.bool false)], args := [d1, d2] }
  | _ => none }
def DiffBackWrongFalsely : Prop := diffBackRow.holds Tryd.pinned (OpenSpec.ofChange diffBackWrong)

/-- 'bonsailaw30.DiffFewest': WHATEVER THE INPUT: true; the input reads as it did. -/
def diffFewestSpec : ChangeSpec := { name := "diffFewest", fn := fun _ => fun
  | [d1, d2] => { results := [.lit (.bool true)], args := [d1, d2] }
  | _ => none }
def diffFewestRow : OpenClaim := { program := "ytclfpjfjebheoaadoor", sum := "3fa26f190636c149dc6d7caabe95282e207fbb482ae2fb7e8d9cde96864a55c7", func := "bonsai/bonsailaw30.DiffFewest", spec := "diffFewest", unfollowed := true, recurses := true, named := ["bonsai/diff.does", "bonsai/tree.kids"], apart := false, laid := [("bonsai/tree.kids", laid_bonsai_tree_kids), ("bonsai/diff.does", laid_bonsai_diff_does)] }
def DiffFewestSaid : Prop := diffFewestRow.holds Tryd.pinned (OpenSpec.ofChange diffFewestSpec)

/-- ITS FALSE NEIGHBOUR: 'it returns false'. Refute it at one input. -/
def diffFewestWrong : ChangeSpec := { name := "diffFewest", fn := fun _ => fun
  | [d1, d2] => { results := [.lit (.bool false)], args := [d1, d2] }
  | _ => none }
def DiffFewestWrongFalsely : Prop := diffFewestRow.holds Tryd.pinned (OpenSpec.ofChange diffFewestWrong)

/-- 'bonsailaw05.ExprBrackets': WHATEVER THE INPUT: true; the input reads as it did. -/
def exprBracketsSpec : ChangeSpec := { name := "exprBrackets", fn := fun _ => fun
  | [d1, d2, d3] => { results := [.lit (.bool true)], args := [d1, d2, d3] }
  | _ => none }
def exprBracketsRow : OpenClaim := { program := "ytclfpjfjebheoaadoor", sum := "3fa26f190636c149dc6d7caabe95282e207fbb482ae2fb7e8d9cde96864a55c7", func := "bonsai/bonsailaw05.ExprBrackets", spec := "exprBrackets", unfollowed := true, recurses := true, named := ["bonsai/tree.kids", "bonsai/expr.together"], apart := false, laid := [("bonsai/tree.kids", laid_bonsai_tree_kids), ("bonsai/expr.together", laid_bonsai_expr_together)] }
def ExprBracketsSaid : Prop := exprBracketsRow.holds Tryd.pinned (OpenSpec.ofChange exprBracketsSpec)

/-- ITS FALSE NEIGHBOUR: 'it returns false'. Refute it at one input. -/
def exprBracketsWrong : ChangeSpec := { name := "exprBrackets", fn := fun _ => fun
  | [d1, d2, d3] => { results := [.lit (.bool false)], args := [d1, d2, d3] }
  | _ => none }
def ExprBracketsWrongFalsely : Prop := exprBracketsRow.holds Tryd.pinned (OpenSpec.ofChange exprBracketsWrong)

/-- 'bonsailaw05.ExprParts': WHATEVER THE INPUT: true; the input reads as it did. -/
def exprPartsSpec : ChangeSpec := { name := "exprParts", fn := fun _ => fun
  | [d] => { results := [.lit (.bool true)], args := [d] }
  | _ => none }
def exprPartsRow : OpenClaim := { program := "ytclfpjfjebheoaadoor", sum := "3fa26f190636c149dc6d7caabe95282e207fbb482ae2fb7e8d9cde96864a55c7", func := "bonsai/bonsailaw05.ExprParts", spec := "exprParts", unfollowed := true, recurses := true, named := ["bonsai/tree.kids", "bonsai/expr.together"], apart := false, laid := [("bonsai/tree.kids", laid_bonsai_tree_kids), ("bonsai/expr.together", laid_bonsai_expr_together)] }
def ExprPartsSaid : Prop := exprPartsRow.holds Tryd.pinned (OpenSpec.ofChange exprPartsSpec)

/-- ITS FALSE NEIGHBOUR: 'it returns false'. Refute it at one input. -/
def exprPartsWrong : ChangeSpec := { name := "exprParts", fn := fun _ => fun
  | [d] => { results := [.lit (.bool false)], args := [d] }
  | _ => none }
def ExprPartsWrongFalsely : Prop := exprPartsRow.holds Tryd.pinned (OpenSpec.ofChange exprPartsWrong)

/-- 'bonsailaw05.ExprPuts': WHATEVER THE INPUT: true; the input reads as it did. -/
def exprPutsSpec : ChangeSpec := { name := "exprPuts", fn := fun _ => fun
  | [d1, d2, d3, d4] => { results := [.lit (.bool true)], args := [d1, d2, d3, d4] }
  | _ => none }
def exprPutsRow : OpenClaim := { program := "ytclfpjfjebheoaadoor", sum := "3fa26f190636c149dc6d7caabe95282e207fbb482ae2fb7e8d9cde96864a55c7", func := "bonsai/bonsailaw05.ExprPuts", spec := "exprPuts", unfollowed := true, recurses := true, named := ["bonsai/tree.kids", "bonsai/expr.together"], apart := false, laid := [("bonsai/tree.kids", laid_bonsai_tree_kids), ("bonsai/expr.together", laid_bonsai_expr_together)] }
def ExprPutsSaid : Prop := exprPutsRow.holds Tryd.pinned (OpenSpec.ofChange exprPutsSpec)

/-- ITS FALSE NEIGHBOUR: 'it returns false'. Refute it at one input. -/
def exprPutsWrong : ChangeSpec := { name := "exprPuts", fn := fun _ => fun
  | [d1, d2, d3, d4] => { results := [.lit (.bool false)], args := [d1, d2, d3, d4] }
  | _ => none }
def ExprPutsWrongFalsely : Prop := exprPutsRow.holds Tryd.pinned (OpenSpec.ofChange exprPutsWrong)

/-- 'bonsailaw05.ExprHead': WHATEVER THE INPUT: true; the input reads as it did. -/
def exprHeadSpec : ChangeSpec := { name := "exprHead", fn := fun _ => fun
  | [d] => { results := [.lit (.bool true)], args := [d] }
  | _ => none }
def exprHeadRow : OpenClaim := { program := "ytclfpjfjebheoaadoor", sum := "3fa26f190636c149dc6d7caabe95282e207fbb482ae2fb7e8d9cde96864a55c7", func := "bonsai/bonsailaw05.ExprHead", spec := "exprHead", unfollowed := true, recurses := true, named := ["bonsai/tree.kids", "bonsai/expr.together"], apart := false, laid := [("bonsai/tree.kids", laid_bonsai_tree_kids), ("bonsai/expr.together", laid_bonsai_expr_together)] }
def ExprHeadSaid : Prop := exprHeadRow.holds Tryd.pinned (OpenSpec.ofChange exprHeadSpec)

/-- ITS FALSE NEIGHBOUR: 'it returns false'. Refute it at one input. -/
def exprHeadWrong : ChangeSpec := { name := "exprHead", fn := fun _ => fun
  | [d] => { results := [.lit (.bool false)], args := [d] }
  | _ => none }
def ExprHeadWrongFalsely : Prop := exprHeadRow.holds Tryd.pinned (OpenSpec.ofChange exprHeadWrong)

/-- 'bonsailaw05.ExprNormal': WHATEVER THE INPUT: true; the input reads as it did. -/
def exprNormalSpec : ChangeSpec := { name := "exprNormal", fn := fun _ => fun
  | [d1, d2] => { results := [.lit (.bool true)], args := [d1, d2] }
  | _ => none }
def exprNormalRow : OpenClaim := { program := "ytclfpjfjebheoaadoor", sum := "3fa26f190636c149dc6d7caabe95282e207fbb482ae2fb7e8d9cde96864a55c7", func := "bonsai/bonsailaw05.ExprNormal", spec := "exprNormal", unfollowed := true, recurses := true, named := ["bonsai/tree.kids", "bonsai/expr.together"], apart := false, laid := [("bonsai/tree.kids", laid_bonsai_tree_kids), ("bonsai/expr.together", laid_bonsai_expr_together)] }
def ExprNormalSaid : Prop := exprNormalRow.holds Tryd.pinned (OpenSpec.ofChange exprNormalSpec)

/-- ITS FALSE NEIGHBOUR: 'it returns false'. Refute it at one input. -/
def exprNormalWrong : ChangeSpec := { name := "exprNormal", fn := fun _ => fun
  | [d1, d2] => { results := [.lit (.bool false)], args := [d1, d2] }
  | _ => none }
def ExprNormalWrongFalsely : Prop := exprNormalRow.holds Tryd.pinned (OpenSpec.ofChange exprNormalWrong)

/- THE SECOND FORM. 'bulk': how many values and letters a reading holds, each counted each time it is reached (what is shared counts as often as it is met; a slice's spare places count too). A statement '..UptoSaid' is the law's where the arguments, and the package variables that the reading takes, are together of bulk at most 1048576: NARROWER than '..Said'. Prove '..Said' where nothing that the law and all that it calls make is longer than what came in: it says more and counts as full. Else prove '..UptoSaid'. A law counts once. -/
mutual
def uptoBulk {H : Type} : DataW H → Nat
  | .lit (.string bytes) => bytes.length + 1
  | .lit _ => 1
  | .nil => 1
  | .ptr d => uptoBulk d + 1
  | .slice elems spare => uptoBulkAll elems + uptoBulkAll spare + 1
  | .agg parts => uptoBulkAll parts + 1
  | .iface _ d => uptoBulk d + 1
  | .map entries => uptoBulkEntries entries + 1
  | .held _ => 1
def uptoBulkAll {H : Type} : List (DataW H) → Nat
  | [] => 0
  | d :: r => uptoBulk d + uptoBulkAll r
def uptoBulkEntries {H : Type} : List (Lit × DataW H) → Nat
  | [] => 0
  | x :: r => uptoBulkEntry x + uptoBulkEntries r
def uptoBulkEntry {H : Type} : Lit × DataW H → Nat
  | (.string bytes, d) => bytes.length + uptoBulk d + 1
  | (_, d) => uptoBulk d + 1
 end
def uptoSmall : (H : Type) → List (DataW H) → Bool := fun _ ds => decide (uptoBulkAll ds ≤ 1048576)
def OpenSpec.upto (s : _root_.Go.ChangeSpec) : _root_.Go.OpenSpec := { _root_.Go.OpenSpec.ofChange s with cond := some uptoSmall }

/-- 'bonsailaw30.DiffBack', WHERE WHAT IT READS IS OF BULK AT MOST 1048576: true; the input reads as it did. -/
def diffBackUptoRow : OpenClaim := { program := "ytclfpjfjebheoaadoor", sum := "3fa26f190636c149dc6d7caabe95282e207fbb482ae2fb7e8d9cde96864a55c7", func := "bonsai/bonsailaw30.DiffBack", spec := "diffBack", unfollowed := true, recurses := true, named := ["bonsai/diff.does", "bonsai/tree.kids"], apart := false, laid := [("bonsai/tree.kids", laid_bonsai_tree_kids), ("bonsai/diff.does", laid_bonsai_diff_does)], narrowed := true }
def DiffBackUptoSaid : Prop := diffBackUptoRow.holds Tryd.pinned (OpenSpec.upto diffBackSpec)

/-- 'bonsailaw30.DiffFewest', WHERE WHAT IT READS IS OF BULK AT MOST 1048576: true; the input reads as it did. -/
def diffFewestUptoRow : OpenClaim := { program := "ytclfpjfjebheoaadoor", sum := "3fa26f190636c149dc6d7caabe95282e207fbb482ae2fb7e8d9cde96864a55c7", func := "bonsai/bonsailaw30.DiffFewest", spec := "diffFewest", unfollowed := true, recurses := true, named := ["bonsai/diff.does", "bonsai/tree.kids"], apart := false, laid := [("bonsai/tree.kids", laid_bonsai_tree_kids), ("bonsai/diff.does", laid_bonsai_diff_does)], narrowed := true }
def DiffFewestUptoSaid : Prop := diffFewestUptoRow.holds Tryd.pinned (OpenSpec.upto diffFewestSpec)

/-- 'bonsailaw05.ExprBrackets', WHERE WHAT IT READS IS OF BULK AT MOST 1048576: true; the input reads as it did. -/
def exprBracketsUptoRow : OpenClaim := { program := "ytclfpjfjebheoaadoor", sum := "3fa26f190636c149dc6d7caabe95282e207fbb482ae2fb7e8d9cde96864a55c7", func := "bonsai/bonsailaw05.ExprBrackets", spec := "exprBrackets", unfollowed := true, recurses := true, named := ["bonsai/tree.kids", "bonsai/expr.together"], apart := false, laid := [("bonsai/tree.kids", laid_bonsai_tree_kids), ("bonsai/expr.together", laid_bonsai_expr_together)], narrowed := true }
def ExprBracketsUptoSaid : Prop := exprBracketsUptoRow.holds Tryd.pinned (OpenSpec.upto exprBracketsSpec)

/-- 'bonsailaw05.ExprParts', WHERE WHAT IT READS IS OF BULK AT MOST 1048576: true; the input reads as it did. -/
def exprPartsUptoRow : OpenClaim := { program := "ytclfpjfjebheoaadoor", sum := "3fa26f190636c149dc6d7caabe95282e207fbb482ae2fb7e8d9cde96864a55c7", func := "bonsai/bonsailaw05.ExprParts", spec := "exprParts", unfollowed := true, recurses := true, named := ["bonsai/tree.kids", "bonsai/expr.together"], apart := false, laid := [("bonsai/tree.kids", laid_bonsai_tree_kids), ("bonsai/expr.together", laid_bonsai_expr_together)], narrowed := true }
def ExprPartsUptoSaid : Prop := exprPartsUptoRow.holds Tryd.pinned (OpenSpec.upto exprPartsSpec)

/-- 'bonsailaw05.ExprPuts', WHERE WHAT IT READS IS OF BULK AT MOST 1048576: true; the input reads as it did. -/
def exprPutsUptoRow : OpenClaim := { program := "ytclfpjfjebheoaadoor", sum := "3fa26f190636c149dc6d7caabe95282e207fbb482ae2fb7e8d9cde96864a55c7", func := "bonsai/bonsailaw05.ExprPuts", spec := "exprPuts", unfollowed := true, recurses := true, named := ["bonsai/tree.kids", "bonsai/expr.together"], apart := false, laid := [("bonsai/tree.kids", laid_bonsai_tree_kids), ("bonsai/expr.together", laid_bonsai_expr_together)], narrowed := true }
def ExprPutsUptoSaid : Prop := exprPutsUptoRow.holds Tryd.pinned (OpenSpec.upto exprPutsSpec)

/-- 'bonsailaw05.ExprHead', WHERE WHAT IT READS IS OF BULK AT MOST 1048576: true; the input reads as it did. -/
def exprHeadUptoRow : OpenClaim := { program := "ytclfpjfjebheoaadoor", sum := "3fa26f190636c149dc6d7caabe95282e207fbb482ae2fb7e8d9cde96864a55c7", func := "bonsai/bonsailaw05.ExprHead", spec := "exprHead", unfollowed := true, recurses := true, named := ["bonsai/tree.kids", "bonsai/expr.together"], apart := false, laid := [("bonsai/tree.kids", laid_bonsai_tree_kids), ("bonsai/expr.together", laid_bonsai_expr_together)], narrowed := true }
def ExprHeadUptoSaid : Prop := exprHeadUptoRow.holds Tryd.pinned (OpenSpec.upto exprHeadSpec)

/-- 'bonsailaw05.ExprNormal', WHERE WHAT IT READS IS OF BULK AT MOST 1048576: true; the input reads as it did. -/
def exprNormalUptoRow : OpenClaim := { program := "ytclfpjfjebheoaadoor", sum := "3fa26f190636c149dc6d7caabe95282e207fbb482ae2fb7e8d9cde96864a55c7", func := "bonsai/bonsailaw05.ExprNormal", spec := "exprNormal", unfollowed := true, recurses := true, named := ["bonsai/tree.kids", "bonsai/expr.together"], apart := false, laid := [("bonsai/tree.kids", laid_bonsai_tree_kids), ("bonsai/expr.together", laid_bonsai_expr_together)], narrowed := true }
def ExprNormalUptoSaid : Prop := exprNormalUptoRow.holds Tryd.pinned (OpenSpec.upto exprNormalSpec)

end Rows
end Go.Proofs.YtclfpjfjebheoaaDoor
