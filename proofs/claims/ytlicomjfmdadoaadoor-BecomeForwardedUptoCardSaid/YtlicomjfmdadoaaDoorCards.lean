/-
  DERIVED. GIVEN WITH THE SEED: THE CARDS: each row of YtlicomjfmdadoaaDoorRows.lean that lists a variable, with what it lists TIED to the program's text (the seventh form; the later family's looks); each row that meets fmt, with fmt's text TOLD by the authors' own Lean function (tested against real Go, not proved from fmt's source: count such statements apart). THE CARD IS WHAT COUNTS. Prove the row's statement (the work); the ties are given (YtlicomjfmdadoaaDoorTie.lean); close each card by the builder's one call (the guide's Derived/Test/ToyasCard.lean, 'card_holds'). Laid BY PROGRAM, IN A SANDBOX (cutbox-door.mjs). By AI agents, Wed Nov 11 2026. No macro, syntax, notation, axiom, sorry.
-/
import Derived.Test.YtlicomjfmdadoaaDoorRows
import GoSem.ClaimSeven
namespace Go.Proofs.YtlicomjfmdadoaaDoor
namespace Rows

/-- THE TIED CARD OF 'kilnlaw2.HeapLoads'. -/
def heapLoadsCard : Claim7 := { stood := { row := heapLoadsRow, standIns := [], harness := (true, "b730e98684d62bc240d4f5fa42a8ff26599ecfe7bdcf002a1cacd2a81bab18c2"), looks := false }, kinds := [], alts := [], laidByText := true, laidKinds := [.data], laidTests := true, laidLooks := .later }
def HeapLoadsCardSaid : Prop := Claim7.holds Tryd.pinned (.plain (OpenSpec.ofChange heapLoadsSpec)) heapLoadsCard

/-- THE TIED CARD OF 'kilnlaw4.BecomeForwards'. -/
def becomeForwardsCard : Claim7 := { stood := { row := becomeForwardsRow, standIns := [], harness := (true, "b730e98684d62bc240d4f5fa42a8ff26599ecfe7bdcf002a1cacd2a81bab18c2"), looks := false }, kinds := [], alts := [], laidByText := true, laidKinds := [.data], laidTests := true, laidLooks := .later }
def BecomeForwardsCardSaid : Prop := Claim7.holds Tryd.pinned (.plain (OpenSpec.ofChange becomeForwardsSpec)) becomeForwardsCard

/-- THE TIED CARD OF 'kilnlaw4.BecomeSwaps'. -/
def becomeSwapsCard : Claim7 := { stood := { row := becomeSwapsRow, standIns := [], harness := (true, "b730e98684d62bc240d4f5fa42a8ff26599ecfe7bdcf002a1cacd2a81bab18c2"), looks := false }, kinds := [], alts := [], laidByText := true, laidKinds := [.data], laidTests := true, laidLooks := .later }
def BecomeSwapsCardSaid : Prop := Claim7.holds Tryd.pinned (.plain (OpenSpec.ofChange becomeSwapsSpec)) becomeSwapsCard

/-- THE TIED CARD OF 'kilnlaw2.HeapAgain'. -/
def heapAgainCard : Claim7 := { stood := { row := heapAgainRow, standIns := [], harness := (true, "b730e98684d62bc240d4f5fa42a8ff26599ecfe7bdcf002a1cacd2a81bab18c2"), looks := false }, kinds := [], alts := [], laidByText := true, laidKinds := [.data], laidTests := true, laidLooks := .later }
def HeapAgainCardSaid : Prop := Claim7.holds Tryd.pinned (.plain (OpenSpec.ofChange heapAgainSpec)) heapAgainCard

/-- THE TIED CARD OF 'kilnlaw4.BecomeSwapped'. -/
def becomeSwappedCard : Claim7 := { stood := { row := becomeSwappedRow, standIns := [], harness := (true, "b730e98684d62bc240d4f5fa42a8ff26599ecfe7bdcf002a1cacd2a81bab18c2"), looks := false }, kinds := [], alts := [], laidByText := true, laidKinds := [.data], laidTests := true, laidLooks := .later }
def BecomeSwappedCardSaid : Prop := Claim7.holds Tryd.pinned (.plain (OpenSpec.ofChange becomeSwappedSpec)) becomeSwappedCard

/-- THE TIED CARD OF 'kilnlaw3.CollectReaches'. -/
def collectReachesCard : Claim7 := { stood := { row := collectReachesRow, standIns := [], harness := (true, "b730e98684d62bc240d4f5fa42a8ff26599ecfe7bdcf002a1cacd2a81bab18c2"), looks := false }, kinds := [], alts := [], laidByText := true, laidKinds := [.data], laidTests := true, laidLooks := .later }
def CollectReachesCardSaid : Prop := Claim7.holds Tryd.pinned (.plain (OpenSpec.ofChange collectReachesSpec)) collectReachesCard

/-- THE TIED CARD OF 'kilnlaw4.BecomeForwarded'. -/
def becomeForwardedCard : Claim7 := { stood := { row := becomeForwardedRow, standIns := [], harness := (true, "b730e98684d62bc240d4f5fa42a8ff26599ecfe7bdcf002a1cacd2a81bab18c2"), looks := false }, kinds := [], alts := [], laidByText := true, laidKinds := [.data], laidTests := true, laidLooks := .later }
def BecomeForwardedCardSaid : Prop := Claim7.holds Tryd.pinned (.plain (OpenSpec.ofChange becomeForwardedSpec)) becomeForwardedCard

/-- THE SECOND FORM's CARD OF 'kilnlaw2.HeapLoads'. -/
def heapLoadsUptoCard : Claim7 := { stood := { row := heapLoadsUptoRow, standIns := [], harness := (true, "b730e98684d62bc240d4f5fa42a8ff26599ecfe7bdcf002a1cacd2a81bab18c2"), looks := false }, kinds := [], alts := [], laidByText := true, laidKinds := [.data], laidTests := true, laidLooks := .later }
def HeapLoadsUptoCardSaid : Prop := Claim7.holds Tryd.pinned (.plain (OpenSpec.upto heapLoadsSpec)) heapLoadsUptoCard

/-- THE SECOND FORM's CARD OF 'kilnlaw4.BecomeForwards'. -/
def becomeForwardsUptoCard : Claim7 := { stood := { row := becomeForwardsUptoRow, standIns := [], harness := (true, "b730e98684d62bc240d4f5fa42a8ff26599ecfe7bdcf002a1cacd2a81bab18c2"), looks := false }, kinds := [], alts := [], laidByText := true, laidKinds := [.data], laidTests := true, laidLooks := .later }
def BecomeForwardsUptoCardSaid : Prop := Claim7.holds Tryd.pinned (.plain (OpenSpec.upto becomeForwardsSpec)) becomeForwardsUptoCard

/-- THE SECOND FORM's CARD OF 'kilnlaw4.BecomeSwaps'. -/
def becomeSwapsUptoCard : Claim7 := { stood := { row := becomeSwapsUptoRow, standIns := [], harness := (true, "b730e98684d62bc240d4f5fa42a8ff26599ecfe7bdcf002a1cacd2a81bab18c2"), looks := false }, kinds := [], alts := [], laidByText := true, laidKinds := [.data], laidTests := true, laidLooks := .later }
def BecomeSwapsUptoCardSaid : Prop := Claim7.holds Tryd.pinned (.plain (OpenSpec.upto becomeSwapsSpec)) becomeSwapsUptoCard

/-- THE SECOND FORM's CARD OF 'kilnlaw2.HeapAgain'. -/
def heapAgainUptoCard : Claim7 := { stood := { row := heapAgainUptoRow, standIns := [], harness := (true, "b730e98684d62bc240d4f5fa42a8ff26599ecfe7bdcf002a1cacd2a81bab18c2"), looks := false }, kinds := [], alts := [], laidByText := true, laidKinds := [.data], laidTests := true, laidLooks := .later }
def HeapAgainUptoCardSaid : Prop := Claim7.holds Tryd.pinned (.plain (OpenSpec.upto heapAgainSpec)) heapAgainUptoCard

/-- THE SECOND FORM's CARD OF 'kilnlaw4.BecomeSwapped'. -/
def becomeSwappedUptoCard : Claim7 := { stood := { row := becomeSwappedUptoRow, standIns := [], harness := (true, "b730e98684d62bc240d4f5fa42a8ff26599ecfe7bdcf002a1cacd2a81bab18c2"), looks := false }, kinds := [], alts := [], laidByText := true, laidKinds := [.data], laidTests := true, laidLooks := .later }
def BecomeSwappedUptoCardSaid : Prop := Claim7.holds Tryd.pinned (.plain (OpenSpec.upto becomeSwappedSpec)) becomeSwappedUptoCard

/-- THE SECOND FORM's CARD OF 'kilnlaw3.CollectReaches'. -/
def collectReachesUptoCard : Claim7 := { stood := { row := collectReachesUptoRow, standIns := [], harness := (true, "b730e98684d62bc240d4f5fa42a8ff26599ecfe7bdcf002a1cacd2a81bab18c2"), looks := false }, kinds := [], alts := [], laidByText := true, laidKinds := [.data], laidTests := true, laidLooks := .later }
def CollectReachesUptoCardSaid : Prop := Claim7.holds Tryd.pinned (.plain (OpenSpec.upto collectReachesSpec)) collectReachesUptoCard

/-- THE SECOND FORM's CARD OF 'kilnlaw4.BecomeForwarded'. -/
def becomeForwardedUptoCard : Claim7 := { stood := { row := becomeForwardedUptoRow, standIns := [], harness := (true, "b730e98684d62bc240d4f5fa42a8ff26599ecfe7bdcf002a1cacd2a81bab18c2"), looks := false }, kinds := [], alts := [], laidByText := true, laidKinds := [.data], laidTests := true, laidLooks := .later }
def BecomeForwardedUptoCardSaid : Prop := Claim7.holds Tryd.pinned (.plain (OpenSpec.upto becomeForwardedSpec)) becomeForwardedUptoCard
end Rows
end Go.Proofs.YtlicomjfmdadoaaDoor
