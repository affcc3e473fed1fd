/-
  NARROWER THAN 'FOR EVERY INPUT', by the rows' own cells (each row's printed sentence says how): HeapLoads: laid · BecomeForwards: laid · BecomeSwaps: laid · HeapAgain: laid · BecomeSwapped: laid · CollectReaches: laid · BecomeForwarded: laid.
  DERIVED. THE GIVEN ROWS OF THIS SEAT. 7 by the template 'for every input the law returns true; each argument reads behind the call as it read before'; 0 by the template 'total and deterministic' (their statements: YtlicomjfmdadoaaDoorTotals.lean).
  GIVEN WITH THE SEED: the statements are not yours to turn. If you find one false, say at which input.
  Laid BY PROGRAM, IN A SANDBOX (cutbox-rows.mjs): the forced cells as the released guide's own fill.sh prints them over the translation 0fba92aca67e76fd… (all of the seat's roots in one cut). By AI agents, Wed Nov 11 2026. No macro, syntax, notation, axiom, sorry.
-/
import Derived.Test.YtlicomjfmdadoaaDoorChecked
import GoSem.Claim
import GoSem.ClaimJoined
import GoSem.ClaimMapViews
import Derived.JoinedTies
import Derived.KernelRfl
namespace Go.Proofs.YtlicomjfmdadoaaDoor
/- THE CELL 'sum', in the pinned program and in every row, IS THE sha256 OF THE DUMP (.gsa) THAT YtlicomjfmdadoaaDoorProg.lean LOADS. Nothing in Lean hashes anything: it is a label: what it is worth is what the hold of that sum in a sandbox is worth. -/
noncomputable def Tryd.pinned : Pinned := { name := "ytlicomjfmdadoaadoor", sum := "0fba92aca67e76fd28417cba4584ed3b6a6fd7ba9ce1d2000a69c7a119593766", checked := Tryd.checked }
namespace Rows
def none {H : Type} : Left H := { results := [], args := [] }

/- WHAT THE LISTED PACKAGE-LEVEL VARIABLES READ AS WHEN THE CALL BEGINS. Each datum BY PROGRAM (the guide's laid-datum.mjs) off the statement by which the dump's own 'gosem.cut.vars' lays the variable. In a bare row this is a premise. The card (YtlicomjfmdadoaaDoorCards.lean) ties it to the program's text. -/
def laid_kiln_word_kinds {H : Type} : DataW H := .agg [.lit (.int .i64 3), .lit (.int .i64 1), .lit (.int .i64 2), .lit (.int .i64 1)]

/-- 'kilnlaw2.HeapLoads': WHATEVER THE INPUT: true; the input reads as it did. -/
def heapLoadsSpec : ChangeSpec := { name := "heapLoads", fn := fun _ => fun
  | [d] => { results := [.lit (.bool true)], args := [d] }
  | _ => none }
def heapLoadsRow : OpenClaim := { program := "ytlicomjfmdadoaadoor", sum := "0fba92aca67e76fd28417cba4584ed3b6a6fd7ba9ce1d2000a69c7a119593766", func := "kiln/kilnlaw2.HeapLoads", spec := "heapLoads", unfollowed := true, recurses := true, named := ["kiln/word.kinds"], apart := false, laid := [("kiln/word.kinds", laid_kiln_word_kinds)] }
def HeapLoadsSaid : Prop := heapLoadsRow.holds Tryd.pinned (OpenSpec.ofChange heapLoadsSpec)

/-- ITS FALSE NEIGHBOUR: 'it returns false'. Refute it at one input. -/
def heapLoadsWrong : ChangeSpec := { name := "heapLoads", fn := fun _ => fun
  | [d] => { results := [.lit (.bool false)], args := [d] }
  | _ => none }
def HeapLoadsWrongFalsely : Prop := heapLoadsRow.holds Tryd.pinned (OpenSpec.ofChange heapLoadsWrong)

/-- 'kilnlaw4.BecomeForwards': WHATEVER THE INPUT: true; the input reads as it did. -/
def becomeForwardsSpec : ChangeSpec := { name := "becomeForwards", fn := fun _ => fun
  | [d1, d2, d3] => { results := [.lit (.bool true)], args := [d1, d2, d3] }
  | _ => none }
def becomeForwardsRow : OpenClaim := { program := "ytlicomjfmdadoaadoor", sum := "0fba92aca67e76fd28417cba4584ed3b6a6fd7ba9ce1d2000a69c7a119593766", func := "kiln/kilnlaw4.BecomeForwards", spec := "becomeForwards", unfollowed := true, recurses := true, named := ["kiln/word.kinds"], apart := false, laid := [("kiln/word.kinds", laid_kiln_word_kinds)] }
def BecomeForwardsSaid : Prop := becomeForwardsRow.holds Tryd.pinned (OpenSpec.ofChange becomeForwardsSpec)

/-- ITS FALSE NEIGHBOUR: 'it returns false'. Refute it at one input. -/
def becomeForwardsWrong : ChangeSpec := { name := "becomeForwards", fn := fun _ => fun
  | [d1, d2, d3] => { results := [.lit (.bool false)], args := [d1, d2, d3] }
  | _ => none }
def BecomeForwardsWrongFalsely : Prop := becomeForwardsRow.holds Tryd.pinned (OpenSpec.ofChange becomeForwardsWrong)

/-- 'kilnlaw4.BecomeSwaps': WHATEVER THE INPUT: true; the input reads as it did. -/
def becomeSwapsSpec : ChangeSpec := { name := "becomeSwaps", fn := fun _ => fun
  | [d1, d2, d3] => { results := [.lit (.bool true)], args := [d1, d2, d3] }
  | _ => none }
def becomeSwapsRow : OpenClaim := { program := "ytlicomjfmdadoaadoor", sum := "0fba92aca67e76fd28417cba4584ed3b6a6fd7ba9ce1d2000a69c7a119593766", func := "kiln/kilnlaw4.BecomeSwaps", spec := "becomeSwaps", unfollowed := true, recurses := true, named := ["kiln/word.kinds"], apart := false, laid := [("kiln/word.kinds", laid_kiln_word_kinds)] }
def BecomeSwapsSaid : Prop := becomeSwapsRow.holds Tryd.pinned (OpenSpec.ofChange becomeSwapsSpec)

/-- ITS FALSE NEIGHBOUR: 'it returns false'. Refute it at one input. -/
def becomeSwapsWrong : ChangeSpec := { name := "becomeSwaps", fn := fun _ => fun
  | [d1, d2, d3] => { results := [.lit (.bool false)], args := [d1, d2, d3] }
  | _ => none }
def BecomeSwapsWrongFalsely : Prop := becomeSwapsRow.holds Tryd.pinned (OpenSpec.ofChange becomeSwapsWrong)

/-- 'kilnlaw2.HeapAgain': WHATEVER THE INPUT: true; the input reads as it did. -/
def heapAgainSpec : ChangeSpec := { name := "heapAgain", fn := fun _ => fun
  | [d1, d2, d3, d4] => { results := [.lit (.bool true)], args := [d1, d2, d3, d4] }
  | _ => none }
def heapAgainRow : OpenClaim := { program := "ytlicomjfmdadoaadoor", sum := "0fba92aca67e76fd28417cba4584ed3b6a6fd7ba9ce1d2000a69c7a119593766", func := "kiln/kilnlaw2.HeapAgain", spec := "heapAgain", unfollowed := true, recurses := true, named := ["kiln/word.kinds"], apart := false, laid := [("kiln/word.kinds", laid_kiln_word_kinds)] }
def HeapAgainSaid : Prop := heapAgainRow.holds Tryd.pinned (OpenSpec.ofChange heapAgainSpec)

/-- ITS FALSE NEIGHBOUR: 'it returns false'. Refute it at one input. -/
def heapAgainWrong : ChangeSpec := { name := "heapAgain", fn := fun _ => fun
  | [d1, d2, d3, d4] => { results := [.lit (.bool false)], args := [d1, d2, d3, d4] }
  | _ => none }
def HeapAgainWrongFalsely : Prop := heapAgainRow.holds Tryd.pinned (OpenSpec.ofChange heapAgainWrong)

/-- 'kilnlaw4.BecomeSwapped': WHATEVER THE INPUT: true; the input reads as it did. -/
def becomeSwappedSpec : ChangeSpec := { name := "becomeSwapped", fn := fun _ => fun
  | [d1, d2, d3] => { results := [.lit (.bool true)], args := [d1, d2, d3] }
  | _ => none }
def becomeSwappedRow : OpenClaim := { program := "ytlicomjfmdadoaadoor", sum := "0fba92aca67e76fd28417cba4584ed3b6a6fd7ba9ce1d2000a69c7a119593766", func := "kiln/kilnlaw4.BecomeSwapped", spec := "becomeSwapped", unfollowed := true, recurses := true, named := ["kiln/word.kinds"], apart := false, laid := [("kiln/word.kinds", laid_kiln_word_kinds)] }
def BecomeSwappedSaid : Prop := becomeSwappedRow.holds Tryd.pinned (OpenSpec.ofChange becomeSwappedSpec)

/-- ITS FALSE NEIGHBOUR: 'it returns false'. Refute it at one input. -/
def becomeSwappedWrong : ChangeSpec := { name := "becomeSwapped", fn := fun _ => fun
  | [d1, d2, d3] => { results := [.lit (.bool false)], args := [d1, d2, d3] }
  | _ => none }
def BecomeSwappedWrongFalsely : Prop := becomeSwappedRow.holds Tryd.pinned (OpenSpec.ofChange becomeSwappedWrong)

/-- 'kilnlaw3.CollectReaches': WHATEVER THE INPUT: true; the input reads as it did. -/
def collectReachesSpec : ChangeSpec := { name := "collectReaches", fn := fun _ => fun
  | [d1, d2] => { results := [.lit (.bool true)], args := [d1, d2] }
  | _ => none }
def collectReachesRow : OpenClaim := { program := "ytlicomjfmdadoaadoor", sum := "0fba92aca67e76fd28417cba4584ed3b6a6fd7ba9ce1d2000a69c7a119593766", func := "kiln/kilnlaw3.CollectReaches", spec := "collectReaches", unfollowed := true, recurses := true, named := ["kiln/word.kinds"], apart := false, laid := [("kiln/word.kinds", laid_kiln_word_kinds)] }
def CollectReachesSaid : Prop := collectReachesRow.holds Tryd.pinned (OpenSpec.ofChange collectReachesSpec)

/-- ITS FALSE NEIGHBOUR: 'it returns false'. Refute it at one input. -/
def collectReachesWrong : ChangeSpec := { name := "collectReaches", fn := fun _ => fun
  | [d1, d2] => { results := [.lit (.bool false)], args := [d1, d2] }
  | _ => none }
def CollectReachesWrongFalsely : Prop := collectReachesRow.holds Tryd.pinned (OpenSpec.ofChange collectReachesWrong)

/-- 'kilnlaw4.BecomeForwarded': WHATEVER THE INPUT: true; the input reads as it did. -/
def becomeForwardedSpec : ChangeSpec := { name := "becomeForwarded", fn := fun _ => fun
  | [d1, d2, d3, d4] => { results := [.lit (.bool true)], args := [d1, d2, d3, d4] }
  | _ => none }
def becomeForwardedRow : OpenClaim := { program := "ytlicomjfmdadoaadoor", sum := "0fba92aca67e76fd28417cba4584ed3b6a6fd7ba9ce1d2000a69c7a119593766", func := "kiln/kilnlaw4.BecomeForwarded", spec := "becomeForwarded", unfollowed := true, recurses := true, named := ["kiln/word.kinds"], apart := false, laid := [("kiln/word.kinds", laid_kiln_word_kinds)] }
def BecomeForwardedSaid : Prop := becomeForwardedRow.holds Tryd.pinned (OpenSpec.ofChange becomeForwardedSpec)

/-- ITS FALSE NEIGHBOUR: 'it returns false'. Refute it at one input. -/
def becomeForwardedWrong : ChangeSpec := { name := "becomeForwarded", fn := fun _ => fun
  | [d1, d2, d3, d4] => { results := [.lit (.bool false)], args := [d1, d2, d3, d4] }
  | _ => none }
def BecomeForwardedWrongFalsely : Prop := becomeForwardedRow.holds Tryd.pinned (OpenSpec.ofChange becomeForwardedWrong)

/- THE SECOND FORM. 'bulk': how many values and letters a reading holds, each counted each time it is reached (what is shared counts as often as it is met; a slice's spare places count too). A statement '..UptoSaid' is the law's where the arguments, and the package variables that the reading takes, are together of bulk at most 1048576: NARROWER than '..Said'. Prove '..Said' where nothing that the law and all that it calls make is longer than what came in: it says more and counts as full. Else prove '..UptoSaid'. A law counts once. -/
mutual
def uptoBulk {H : Type} : DataW H → Nat
  | .lit (.string bytes) => bytes.length + 1
  | .lit _ => 1
  | .nil => 1
  | .ptr d => uptoBulk d + 1
  | .slice elems spare => uptoBulkAll elems + uptoBulkAll spare + 1
  | .agg parts => uptoBulkAll parts + 1
  | .iface _ d => uptoBulk d + 1
  | .map entries => uptoBulkEntries entries + 1
  | .held _ => 1
def uptoBulkAll {H : Type} : List (DataW H) → Nat
  | [] => 0
  | d :: r => uptoBulk d + uptoBulkAll r
def uptoBulkEntries {H : Type} : List (Lit × DataW H) → Nat
  | [] => 0
  | x :: r => uptoBulkEntry x + uptoBulkEntries r
def uptoBulkEntry {H : Type} : Lit × DataW H → Nat
  | (.string bytes, d) => bytes.length + uptoBulk d + 1
  | (_, d) => uptoBulk d + 1
 end
def uptoSmall : (H : Type) → List (DataW H) → Bool := fun _ ds => decide (uptoBulkAll ds ≤ 1048576)
def OpenSpec.upto (s : _root_.Go.ChangeSpec) : _root_.Go.OpenSpec := { _root_.Go.OpenSpec.ofChange s with cond := some uptoSmall }

/-- 'kilnlaw2.HeapLoads', WHERE WHAT IT READS IS OF BULK AT MOST 1048576: true; the input reads as it did. -/
def heapLoadsUptoRow : OpenClaim := { program := "ytlicomjfmdadoaadoor", sum := "0fba92aca67e76fd28417cba4584ed3b6a6fd7ba9ce1d2000a69c7a119593766", func := "kiln/kilnlaw2.HeapLoads", spec := "heapLoads", unfollowed := true, recurses := true, named := ["kiln/word.kinds"], apart := false, laid := [("kiln/word.kinds", laid_kiln_word_kinds)], narrowed := true }
def HeapLoadsUptoSaid : Prop := heapLoadsUptoRow.holds Tryd.pinned (OpenSpec.upto heapLoadsSpec)

/-- 'kilnlaw4.BecomeForwards', WHERE WHAT IT READS IS OF BULK AT MOST 1048576: true; the input reads as it did. -/
def becomeForwardsUptoRow : OpenClaim := { program := "ytlicomjfmdadoaadoor", sum := "0fba92aca67e76fd28417cba4584ed3b6a6fd7ba9ce1d2000a69c7a119593766", func := "kiln/kilnlaw4.BecomeForwards", spec := "becomeForwards", unfollowed := true, recurses := true, named := ["kiln/word.kinds"], apart := false, laid := [("kiln/word.kinds", laid_kiln_word_kinds)], narrowed := true }
def BecomeForwardsUptoSaid : Prop := becomeForwardsUptoRow.holds Tryd.pinned (OpenSpec.upto becomeForwardsSpec)

/-- 'kilnlaw4.BecomeSwaps', WHERE WHAT IT READS IS OF BULK AT MOST 1048576: true; the input reads as it did. -/
def becomeSwapsUptoRow : OpenClaim := { program := "ytlicomjfmdadoaadoor", sum := "0fba92aca67e76fd28417cba4584ed3b6a6fd7ba9ce1d2000a69c7a119593766", func := "kiln/kilnlaw4.BecomeSwaps", spec := "becomeSwaps", unfollowed := true, recurses := true, named := ["kiln/word.kinds"], apart := false, laid := [("kiln/word.kinds", laid_kiln_word_kinds)], narrowed := true }
def BecomeSwapsUptoSaid : Prop := becomeSwapsUptoRow.holds Tryd.pinned (OpenSpec.upto becomeSwapsSpec)

/-- 'kilnlaw2.HeapAgain', WHERE WHAT IT READS IS OF BULK AT MOST 1048576: true; the input reads as it did. -/
def heapAgainUptoRow : OpenClaim := { program := "ytlicomjfmdadoaadoor", sum := "0fba92aca67e76fd28417cba4584ed3b6a6fd7ba9ce1d2000a69c7a119593766", func := "kiln/kilnlaw2.HeapAgain", spec := "heapAgain", unfollowed := true, recurses := true, named := ["kiln/word.kinds"], apart := false, laid := [("kiln/word.kinds", laid_kiln_word_kinds)], narrowed := true }
def HeapAgainUptoSaid : Prop := heapAgainUptoRow.holds Tryd.pinned (OpenSpec.upto heapAgainSpec)

/-- 'kilnlaw4.BecomeSwapped', WHERE WHAT IT READS IS OF BULK AT MOST 1048576: true; the input reads as it did. -/
def becomeSwappedUptoRow : OpenClaim := { program := "ytlicomjfmdadoaadoor", sum := "0fba92aca67e76fd28417cba4584ed3b6a6fd7ba9ce1d2000a69c7a119593766", func := "kiln/kilnlaw4.BecomeSwapped", spec := "becomeSwapped", unfollowed := true, recurses := true, named := ["kiln/word.kinds"], apart := false, laid := [("kiln/word.kinds", laid_kiln_word_kinds)], narrowed := true }
def BecomeSwappedUptoSaid : Prop := becomeSwappedUptoRow.holds Tryd.pinned (OpenSpec.upto becomeSwappedSpec)

/-- 'kilnlaw3.CollectReaches', WHERE WHAT IT READS IS OF BULK AT MOST 1048576: true; the input reads as it did. -/
def collectReachesUptoRow : OpenClaim := { program := "ytlicomjfmdadoaadoor", sum := "0fba92aca67e76fd28417cba4584ed3b6a6fd7ba9ce1d2000a69c7a119593766", func := "kiln/kilnlaw3.CollectReaches", spec := "collectReaches", unfollowed := true, recurses := true, named := ["kiln/word.kinds"], apart := false, laid := [("kiln/word.kinds", laid_kiln_word_kinds)], narrowed := true }
def CollectReachesUptoSaid : Prop := collectReachesUptoRow.holds Tryd.pinned (OpenSpec.upto collectReachesSpec)

/-- 'kilnlaw4.BecomeForwarded', WHERE WHAT IT READS IS OF BULK AT MOST 1048576: true; the input reads as it did. -/
def becomeForwardedUptoRow : OpenClaim := { program := "ytlicomjfmdadoaadoor", sum := "0fba92aca67e76fd28417cba4584ed3b6a6fd7ba9ce1d2000a69c7a119593766", func := "kiln/kilnlaw4.BecomeForwarded", spec := "becomeForwarded", unfollowed := true, recurses := true, named := ["kiln/word.kinds"], apart := false, laid := [("kiln/word.kinds", laid_kiln_word_kinds)], narrowed := true }
def BecomeForwardedUptoSaid : Prop := becomeForwardedUptoRow.holds Tryd.pinned (OpenSpec.upto becomeForwardedSpec)

end Rows
end Go.Proofs.YtlicomjfmdadoaaDoor
