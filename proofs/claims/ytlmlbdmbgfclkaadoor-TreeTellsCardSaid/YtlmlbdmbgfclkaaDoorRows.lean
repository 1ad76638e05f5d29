/-
  NARROWER THAN 'FOR EVERY INPUT', by the rows' own cells (each row's printed sentence says how): TreeRow: laid · TreeSame: laid · TreeNames: laid · TreeTells: laid · TreeBack: laid.
  DERIVED. THE GIVEN ROWS OF THIS SEAT. 5 by the template 'for every input the law returns true; each argument reads behind the call as it read before'; 0 by the template 'total and deterministic' (their statements: YtlmlbdmbgfclkaaDoorTotals.lean).
  GIVEN WITH THE SEED: the statements are not yours to turn. If you find one false, say at which input.
  Laid BY PROGRAM, IN A SANDBOX (cutbox-rows.mjs): the forced cells as the released guide's own fill.sh prints them over the translation 8da7b92ae00f483a… (all of the seat's roots in one cut). By AI agents, Wed Nov 11 2026. No macro, syntax, notation, axiom, sorry.
-/
import Derived.Test.YtlmlbdmbgfclkaaDoorChecked
import GoSem.Claim
import GoSem.ClaimJoined
import GoSem.ClaimMapViews
import Derived.JoinedTies
import Derived.KernelRfl
namespace Go.Proofs.YtlmlbdmbgfclkaaDoor
/- THE CELL 'sum', in the pinned program and in every row, IS THE sha256 OF THE DUMP (.gsa) THAT YtlmlbdmbgfclkaaDoorProg.lean LOADS. Nothing in Lean hashes anything: it is a label: what it is worth is what the hold of that sum in a sandbox is worth. -/
noncomputable def Tryd.pinned : Pinned := { name := "ytlmlbdmbgfclkaadoor", sum := "8da7b92ae00f483af249523fd97735afc399b486b973b32fc616e203757f3cd5", checked := Tryd.checked }
namespace Rows
def none {H : Type} : Left H := { results := [], args := [] }

/- WHAT THE LISTED PACKAGE-LEVEL VARIABLES READ AS WHEN THE CALL BEGINS. Each datum BY PROGRAM (the guide's laid-datum.mjs) off the statement by which the dump's own 'gosem.cut.vars' lays the variable. In a bare row this is a premise. The card (YtlmlbdmbgfclkaaDoorCards.lean) ties it to the program's text. -/
def laid_bonsai_tree_kids {H : Type} : DataW H := .agg [.agg [.lit (.int .i64 0), .lit (.int .i64 0)], .agg [.lit (.int .i64 0), .lit (.int .i64 0)], .agg [.lit (.int .i64 0), .lit (.int .i64 0)], .agg [.lit (.int .i64 0), .lit (.int .i64 0)], .agg [.lit (.int .i64 2), .lit (.int .i64 (-1))], .agg [.lit (.int .i64 2), .lit (.int .i64 (-1))], .agg [.lit (.int .i64 1), .lit (.int .i64 1)], .agg [.lit (.int .i64 1), .lit (.int .i64 1)], .agg [.lit (.int .i64 1), .lit (.int .i64 1)], .agg [.lit (.int .i64 1), .lit (.int .i64 1)]]

/-- 'bonsailaw04.TreeRow': WHATEVER THE INPUT: true; the input reads as it did. -/
def treeRowSpec : ChangeSpec := { name := "treeRow", fn := fun _ => fun
  | [d] => { results := [.lit (.bool true)], args := [d] }
  | _ => none }
def treeRowRow : OpenClaim := { program := "ytlmlbdmbgfclkaadoor", sum := "8da7b92ae00f483af249523fd97735afc399b486b973b32fc616e203757f3cd5", func := "bonsai/bonsailaw04.TreeRow", spec := "treeRow", unfollowed := true, recurses := true, named := ["bonsai/tree.kids"], apart := false, laid := [("bonsai/tree.kids", laid_bonsai_tree_kids)] }
def TreeRowSaid : Prop := treeRowRow.holds Tryd.pinned (OpenSpec.ofChange treeRowSpec)

/-- ITS FALSE NEIGHBOUR: 'it returns false'. Refute it at one input. -/
def treeRowWrong : ChangeSpec := { name := "treeRow", fn := fun _ => fun
  | [d] => { results := [.lit (.bool false)], args := [d] }
  | _ => none }
def TreeRowWrongFalsely : Prop := treeRowRow.holds Tryd.pinned (OpenSpec.ofChange treeRowWrong)

/-- 'bonsailaw04.TreeSame': WHATEVER THE INPUT: true; the input reads as it did. -/
def treeSameSpec : ChangeSpec := { name := "treeSame", fn := fun _ => fun
  | [d1, d2, d3] => { results := [.lit (.bool true)], args := [d1, d2, d3] }
  | _ => none }
def treeSameRow : OpenClaim := { program := "ytlmlbdmbgfclkaadoor", sum := "8da7b92ae00f483af249523fd97735afc399b486b973b32fc616e203757f3cd5", func := "bonsai/bonsailaw04.TreeSame", spec := "treeSame", unfollowed := true, recurses := true, named := ["bonsai/tree.kids"], apart := false, laid := [("bonsai/tree.kids", laid_bonsai_tree_kids)] }
def TreeSameSaid : Prop := treeSameRow.holds Tryd.pinned (OpenSpec.ofChange treeSameSpec)

/-- ITS FALSE NEIGHBOUR: 'it returns false'. Refute it at one input. -/
def treeSameWrong : ChangeSpec := { name := "treeSame", fn := fun _ => fun
  | [d1, d2, d3] => { results := [.lit (.bool false)], args := [d1, d2, d3] }
  | _ => none }
def TreeSameWrongFalsely : Prop := treeSameRow.holds Tryd.pinned (OpenSpec.ofChange treeSameWrong)

/-- 'bonsailaw04.TreeNames': WHATEVER THE INPUT: true; the input reads as it did. -/
def treeNamesSpec : ChangeSpec := { name := "treeNames", fn := fun _ => fun
  | [] => { results := [.lit (.bool true)], args := [] }
  | _ => none }
def treeNamesRow : OpenClaim := { program := "ytlmlbdmbgfclkaadoor", sum := "8da7b92ae00f483af249523fd97735afc399b486b973b32fc616e203757f3cd5", func := "bonsai/bonsailaw04.TreeNames", spec := "treeNames", unfollowed := true, recurses := true, named := ["bonsai/tree.kids"], apart := false, laid := [("bonsai/tree.kids", laid_bonsai_tree_kids)] }
def TreeNamesSaid : Prop := treeNamesRow.holds Tryd.pinned (OpenSpec.ofChange treeNamesSpec)

/-- ITS FALSE NEIGHBOUR: 'it returns false'. Refute it at one input. -/
def treeNamesWrong : ChangeSpec := { name := "treeNames", fn := fun _ => fun
  | [] => { results := [.lit (.bool false)], args := [] }
  | _ => none }
def TreeNamesWrongFalsely : Prop := treeNamesRow.holds Tryd.pinned (OpenSpec.ofChange treeNamesWrong)

/-- 'bonsailaw04.TreeTells': WHATEVER THE INPUT: true; the input reads as it did. -/
def treeTellsSpec : ChangeSpec := { name := "treeTells", fn := fun _ => fun
  | [d1, d2, d3] => { results := [.lit (.bool true)], args := [d1, d2, d3] }
  | _ => none }
def treeTellsRow : OpenClaim := { program := "ytlmlbdmbgfclkaadoor", sum := "8da7b92ae00f483af249523fd97735afc399b486b973b32fc616e203757f3cd5", func := "bonsai/bonsailaw04.TreeTells", spec := "treeTells", unfollowed := true, recurses := true, named := ["bonsai/tree.kids"], apart := false, laid := [("bonsai/tree.kids", laid_bonsai_tree_kids)] }
def TreeTellsSaid : Prop := treeTellsRow.holds Tryd.pinned (OpenSpec.ofChange treeTellsSpec)

/-- ITS FALSE NEIGHBOUR: 'it returns false'. Refute it at one input. -/
def treeTellsWrong : ChangeSpec := { name := "treeTells", fn := fun _ => fun
  | [d1, d2, d3] => { results := [.lit (.bool false)], args := [d1, d2, d3] }
  | _ => none }
def TreeTellsWrongFalsely : Prop := treeTellsRow.holds Tryd.pinned (OpenSpec.ofChange treeTellsWrong)

/-- 'bonsailaw04.TreeBack': WHATEVER THE INPUT: true; the input reads as it did. -/
def treeBackSpec : ChangeSpec := { name := "treeBack", fn := fun _ => fun
  | [d1, d2, d3] => { results := [.lit (.bool true)], args := [d1, d2, d3] }
  | _ => none }
def treeBackRow : OpenClaim := { program := "ytlmlbdmbgfclkaadoor", sum := "8da7b92ae00f483af249523fd97735afc399b486b973b32fc616e203757f3cd5", func := "bonsai/bonsailaw04.TreeBack", spec := "treeBack", unfollowed := true, recurses := true, named := ["bonsai/tree.kids"], apart := false, laid := [("bonsai/tree.kids", laid_bonsai_tree_kids)] }
def TreeBackSaid : Prop := treeBackRow.holds Tryd.pinned (OpenSpec.ofChange treeBackSpec)

/-- ITS FALSE NEIGHBOUR: 'it returns false'. Refute it at one input. -/
def treeBackWrong : ChangeSpec := { name := "treeBack", fn := fun _ => fun
  | [d1, d2, d3] => { results := [.lit (.bool false)], args := [d1, d2, d3] }
  | _ => none }
def TreeBackWrongFalsely : Prop := treeBackRow.holds Tryd.pinned (OpenSpec.ofChange treeBackWrong)

/- THE SECOND FORM. 'bulk': how many values and letters a reading holds, each counted each time it is reached (what is shared counts as often as it is met; a slice's spare places count too). A statement '..UptoSaid' is the law's where the arguments, and the package variables that the reading takes, are together of bulk at most 1048576: NARROWER than '..Said'. Prove '..Said' where nothing that the law and all that it calls make is longer than what came in: it says more and counts as full. Else prove '..UptoSaid'. A law counts once. -/
mutual
def uptoBulk {H : Type} : DataW H → Nat
  | .lit (.string bytes) => bytes.length + 1
  | .lit _ => 1
  | .nil => 1
  | .ptr d => uptoBulk d + 1
  | .slice elems spare => uptoBulkAll elems + uptoBulkAll spare + 1
  | .agg parts => uptoBulkAll parts + 1
  | .iface _ d => uptoBulk d + 1
  | .map entries => uptoBulkEntries entries + 1
  | .held _ => 1
def uptoBulkAll {H : Type} : List (DataW H) → Nat
  | [] => 0
  | d :: r => uptoBulk d + uptoBulkAll r
def uptoBulkEntries {H : Type} : List (Lit × DataW H) → Nat
  | [] => 0
  | x :: r => uptoBulkEntry x + uptoBulkEntries r
def uptoBulkEntry {H : Type} : Lit × DataW H → Nat
  | (.string bytes, d) => bytes.length + uptoBulk d + 1
  | (_, d) => uptoBulk d + 1
 end
def uptoSmall : (H : Type) → List (DataW H) → Bool := fun _ ds => decide (uptoBulkAll ds ≤ 1048576)
def OpenSpec.upto (s : _root_.Go.ChangeSpec) : _root_.Go.OpenSpec := { _root_.Go.OpenSpec.ofChange s with cond := some uptoSmall }

/-- 'bonsailaw04.TreeRow', WHERE WHAT IT READS IS OF BULK AT MOST 1048576: true; the input reads as it did. -/
def treeRowUptoRow : OpenClaim := { program := "ytlmlbdmbgfclkaadoor", sum := "8da7b92ae00f483af249523fd97735afc399b486b973b32fc616e203757f3cd5", func := "bonsai/bonsailaw04.TreeRow", spec := "treeRow", unfollowed := true, recurses := true, named := ["bonsai/tree.kids"], apart := false, laid := [("bonsai/tree.kids", laid_bonsai_tree_kids)], narrowed := true }
def TreeRowUptoSaid : Prop := treeRowUptoRow.holds Tryd.pinned (OpenSpec.upto treeRowSpec)

/-- 'bonsailaw04.TreeSame', WHERE WHAT IT READS IS OF BULK AT MOST 1048576: true; the input reads as it did. -/
def treeSameUptoRow : OpenClaim := { program := "ytlmlbdmbgfclkaadoor", sum := "8da7b92ae00f483af249523fd97735afc399b486b973b32fc616e203757f3cd5", func := "bonsai/bonsailaw04.TreeSame", spec := "treeSame", unfollowed := true, recurses := true, named := ["bonsai/tree.kids"], apart := false, laid := [("bonsai/tree.kids", laid_bonsai_tree_kids)], narrowed := true }
def TreeSameUptoSaid : Prop := treeSameUptoRow.holds Tryd.pinned (OpenSpec.upto treeSameSpec)

/-- 'bonsailaw04.TreeNames', WHERE WHAT IT READS IS OF BULK AT MOST 1048576: true; the input reads as it did. -/
def treeNamesUptoRow : OpenClaim := { program := "ytlmlbdmbgfclkaadoor", sum := "8da7b92ae00f483af249523fd97735afc399b486b973b32fc616e203757f3cd5", func := "bonsai/bonsailaw04.TreeNames", spec := "treeNames", unfollowed := true, recurses := true, named := ["bonsai/tree.kids"], apart := false, laid := [("bonsai/tree.kids", laid_bonsai_tree_kids)], narrowed := true }
def TreeNamesUptoSaid : Prop := treeNamesUptoRow.holds Tryd.pinned (OpenSpec.upto treeNamesSpec)

/-- 'bonsailaw04.TreeTells', WHERE WHAT IT READS IS OF BULK AT MOST 1048576: true; the input reads as it did. -/
def treeTellsUptoRow : OpenClaim := { program := "ytlmlbdmbgfclkaadoor", sum := "8da7b92ae00f483af249523fd97735afc399b486b973b32fc616e203757f3cd5", func := "bonsai/bonsailaw04.TreeTells", spec := "treeTells", unfollowed := true, recurses := true, named := ["bonsai/tree.kids"], apart := false, laid := [("bonsai/tree.kids", laid_bonsai_tree_kids)], narrowed := true }
def TreeTellsUptoSaid : Prop := treeTellsUptoRow.holds Tryd.pinned (OpenSpec.upto treeTellsSpec)

/-- 'bonsailaw04.TreeBack', WHERE WHAT IT READS IS OF BULK AT MOST 1048576: true; the input reads as it did. -/
def treeBackUptoRow : OpenClaim := { program := "ytlmlbdmbgfclkaadoor", sum := "8da7b92ae00f483af249523fd97735afc399b486b973b32fc616e203757f3cd5", func := "bonsai/bonsailaw04.TreeBack", spec := "treeBack", unfollowed := true, recurses := true, named := ["bonsai/tree.kids"], apart := false, laid := [("bonsai/tree.kids", laid_bonsai_tree_kids)], narrowed := true }
def TreeBackUptoSaid : Prop := treeBackUptoRow.holds Tryd.pinned (OpenSpec.upto treeBackSpec)

end Rows
end Go.Proofs.YtlmlbdmbgfclkaaDoor
