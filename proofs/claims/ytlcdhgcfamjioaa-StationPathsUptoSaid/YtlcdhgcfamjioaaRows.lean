/-
  No cell of these rows narrows 'for every input' (looked for: loops, veiled, ifaces, maps, wideKeys, modest, calm, conditions, laid).
  DERIVED. THE GIVEN ROWS OF THIS SEAT. 6 by the template 'for every input the law returns true; each argument reads behind the call as it read before'; 0 by the template 'total and deterministic' (their statements: YtlcdhgcfamjioaaTotals.lean).
  GIVEN WITH THE SEED: the statements are not yours to turn. If you find one false, say at which input.
  Laid BY PROGRAM, IN A SANDBOX (cutbox-rows.mjs): the forced cells as the released guide's own fill.sh prints them over the translation 0162060cbe11772e… (all of the seat's roots in one cut). By AI agents, Wed Nov 11 2026. No macro, syntax, notation, axiom, sorry.
-/
import Derived.Test.YtlcdhgcfamjioaaChecked
import GoSem.Claim
import GoSem.ClaimJoined
import GoSem.ClaimMapViews
import Derived.JoinedTies
import Derived.KernelRfl
namespace Go.Proofs.Ytlcdhgcfamjioaa
/- THE CELL 'sum', in the pinned program and in every row, IS THE sha256 OF THE DUMP (.gsa) THAT YtlcdhgcfamjioaaProg.lean LOADS. Nothing in Lean hashes anything: it is a label: what it is worth is what the hold of that sum in a sandbox is worth. -/
noncomputable def Try.pinned : Pinned := { name := "ytlcdhgcfamjioaa", sum := "0162060cbe11772ea07196ef49653b7709e2a54357c5d1fb42edfb6de69056ea", checked := Try.checked }
namespace Rows
def none {H : Type} : Left H := { results := [], args := [] }

/-- 'gridhalllaw1.GraphParts': WHATEVER THE INPUT: true; the input reads as it did. -/
def graphPartsSpec : ChangeSpec := { name := "graphParts", fn := fun _ => fun
  | [d1, d2] => { results := [.lit (.bool true)], args := [d1, d2] }
  | _ => none }
def graphPartsRow : OpenClaim := { program := "ytlcdhgcfamjioaa", sum := "0162060cbe11772ea07196ef49653b7709e2a54357c5d1fb42edfb6de69056ea", func := "gridhall/gridhalllaw1.GraphParts", spec := "graphParts", unfollowed := true, recurses := true, apart := false }
def GraphPartsSaid : Prop := graphPartsRow.holds Try.pinned (OpenSpec.ofChange graphPartsSpec)

/-- ITS FALSE NEIGHBOUR: 'it returns false'. Refute it at one input. -/
def graphPartsWrong : ChangeSpec := { name := "graphParts", fn := fun _ => fun
  | [d1, d2] => { results := [.lit (.bool false)], args := [d1, d2] }
  | _ => none }
def GraphPartsWrongFalsely : Prop := graphPartsRow.holds Try.pinned (OpenSpec.ofChange graphPartsWrong)

/-- 'gridhalllaw1.GraphPaths': WHATEVER THE INPUT: true; the input reads as it did. -/
def graphPathsSpec : ChangeSpec := { name := "graphPaths", fn := fun _ => fun
  | [d1, d2, d3, d4] => { results := [.lit (.bool true)], args := [d1, d2, d3, d4] }
  | _ => none }
def graphPathsRow : OpenClaim := { program := "ytlcdhgcfamjioaa", sum := "0162060cbe11772ea07196ef49653b7709e2a54357c5d1fb42edfb6de69056ea", func := "gridhall/gridhalllaw1.GraphPaths", spec := "graphPaths", unfollowed := true, recurses := true, apart := false }
def GraphPathsSaid : Prop := graphPathsRow.holds Try.pinned (OpenSpec.ofChange graphPathsSpec)

/-- ITS FALSE NEIGHBOUR: 'it returns false'. Refute it at one input. -/
def graphPathsWrong : ChangeSpec := { name := "graphPaths", fn := fun _ => fun
  | [d1, d2, d3, d4] => { results := [.lit (.bool false)], args := [d1, d2, d3, d4] }
  | _ => none }
def GraphPathsWrongFalsely : Prop := graphPathsRow.holds Try.pinned (OpenSpec.ofChange graphPathsWrong)

/-- 'gridhalllaw1.NetmodelChecks': WHATEVER THE INPUT: true; the input reads as it did. -/
def netmodelChecksSpec : ChangeSpec := { name := "netmodelChecks", fn := fun _ => fun
  | [d1, d2, d3] => { results := [.lit (.bool true)], args := [d1, d2, d3] }
  | _ => none }
def netmodelChecksRow : OpenClaim := { program := "ytlcdhgcfamjioaa", sum := "0162060cbe11772ea07196ef49653b7709e2a54357c5d1fb42edfb6de69056ea", func := "gridhall/gridhalllaw1.NetmodelChecks", spec := "netmodelChecks", unfollowed := true, recurses := true, apart := false }
def NetmodelChecksSaid : Prop := netmodelChecksRow.holds Try.pinned (OpenSpec.ofChange netmodelChecksSpec)

/-- ITS FALSE NEIGHBOUR: 'it returns false'. Refute it at one input. -/
def netmodelChecksWrong : ChangeSpec := { name := "netmodelChecks", fn := fun _ => fun
  | [d1, d2, d3] => { results := [.lit (.bool false)], args := [d1, d2, d3] }
  | _ => none }
def NetmodelChecksWrongFalsely : Prop := netmodelChecksRow.holds Try.pinned (OpenSpec.ofChange netmodelChecksWrong)

/-- 'gridhalllaw1.TopologyParts': WHATEVER THE INPUT: true; the input reads as it did. -/
def topologyPartsSpec : ChangeSpec := { name := "topologyParts", fn := fun _ => fun
  | [d] => { results := [.lit (.bool true)], args := [d] }
  | _ => none }
def topologyPartsRow : OpenClaim := { program := "ytlcdhgcfamjioaa", sum := "0162060cbe11772ea07196ef49653b7709e2a54357c5d1fb42edfb6de69056ea", func := "gridhall/gridhalllaw1.TopologyParts", spec := "topologyParts", unfollowed := true, recurses := true, apart := false }
def TopologyPartsSaid : Prop := topologyPartsRow.holds Try.pinned (OpenSpec.ofChange topologyPartsSpec)

/-- ITS FALSE NEIGHBOUR: 'it returns false'. Refute it at one input. -/
def topologyPartsWrong : ChangeSpec := { name := "topologyParts", fn := fun _ => fun
  | [d] => { results := [.lit (.bool false)], args := [d] }
  | _ => none }
def TopologyPartsWrongFalsely : Prop := topologyPartsRow.holds Try.pinned (OpenSpec.ofChange topologyPartsWrong)

/-- 'gridhalllaw1.StationBuses': WHATEVER THE INPUT: true; the input reads as it did. -/
def stationBusesSpec : ChangeSpec := { name := "stationBuses", fn := fun _ => fun
  | [d1, d2] => { results := [.lit (.bool true)], args := [d1, d2] }
  | _ => none }
def stationBusesRow : OpenClaim := { program := "ytlcdhgcfamjioaa", sum := "0162060cbe11772ea07196ef49653b7709e2a54357c5d1fb42edfb6de69056ea", func := "gridhall/gridhalllaw1.StationBuses", spec := "stationBuses", unfollowed := true, recurses := true, apart := false }
def StationBusesSaid : Prop := stationBusesRow.holds Try.pinned (OpenSpec.ofChange stationBusesSpec)

/-- ITS FALSE NEIGHBOUR: 'it returns false'. Refute it at one input. -/
def stationBusesWrong : ChangeSpec := { name := "stationBuses", fn := fun _ => fun
  | [d1, d2] => { results := [.lit (.bool false)], args := [d1, d2] }
  | _ => none }
def StationBusesWrongFalsely : Prop := stationBusesRow.holds Try.pinned (OpenSpec.ofChange stationBusesWrong)

/-- 'gridhalllaw1.StationPaths': WHATEVER THE INPUT: true; the input reads as it did. -/
def stationPathsSpec : ChangeSpec := { name := "stationPaths", fn := fun _ => fun
  | [d1, d2, d3] => { results := [.lit (.bool true)], args := [d1, d2, d3] }
  | _ => none }
def stationPathsRow : OpenClaim := { program := "ytlcdhgcfamjioaa", sum := "0162060cbe11772ea07196ef49653b7709e2a54357c5d1fb42edfb6de69056ea", func := "gridhall/gridhalllaw1.StationPaths", spec := "stationPaths", unfollowed := true, recurses := true, apart := false }
def StationPathsSaid : Prop := stationPathsRow.holds Try.pinned (OpenSpec.ofChange stationPathsSpec)

/-- ITS FALSE NEIGHBOUR: 'it returns false'. Refute it at one input. -/
def stationPathsWrong : ChangeSpec := { name := "stationPaths", fn := fun _ => fun
  | [d1, d2, d3] => { results := [.lit (.bool false)], args := [d1, d2, d3] }
  | _ => none }
def StationPathsWrongFalsely : Prop := stationPathsRow.holds Try.pinned (OpenSpec.ofChange stationPathsWrong)

/- THE SECOND FORM. 'bulk': how many values and letters a reading holds, each counted each time it is reached (what is shared counts as often as it is met; a slice's spare places count too). A statement '..UptoSaid' is the law's where the arguments, and the package variables that the reading takes, are together of bulk at most 1048576: NARROWER than '..Said'. Prove '..Said' where nothing that the law and all that it calls make is longer than what came in: it says more and counts as full. Else prove '..UptoSaid'. A law counts once. -/
mutual
def uptoBulk {H : Type} : DataW H → Nat
  | .lit (.string bytes) => bytes.length + 1
  | .lit _ => 1
  | .nil => 1
  | .ptr d => uptoBulk d + 1
  | .slice elems spare => uptoBulkAll elems + uptoBulkAll spare + 1
  | .agg parts => uptoBulkAll parts + 1
  | .iface _ d => uptoBulk d + 1
  | .map entries => uptoBulkEntries entries + 1
  | .held _ => 1
def uptoBulkAll {H : Type} : List (DataW H) → Nat
  | [] => 0
  | d :: r => uptoBulk d + uptoBulkAll r
def uptoBulkEntries {H : Type} : List (Lit × DataW H) → Nat
  | [] => 0
  | x :: r => uptoBulkEntry x + uptoBulkEntries r
def uptoBulkEntry {H : Type} : Lit × DataW H → Nat
  | (.string bytes, d) => bytes.length + uptoBulk d + 1
  | (_, d) => uptoBulk d + 1
 end
def uptoSmall : (H : Type) → List (DataW H) → Bool := fun _ ds => decide (uptoBulkAll ds ≤ 1048576)
def OpenSpec.upto (s : _root_.Go.ChangeSpec) : _root_.Go.OpenSpec := { _root_.Go.OpenSpec.ofChange s with cond := some uptoSmall }

/-- 'gridhalllaw1.GraphParts', WHERE WHAT IT READS IS OF BULK AT MOST 1048576: true; the input reads as it did. -/
def graphPartsUptoRow : OpenClaim := { program := "ytlcdhgcfamjioaa", sum := "0162060cbe11772ea07196ef49653b7709e2a54357c5d1fb42edfb6de69056ea", func := "gridhall/gridhalllaw1.GraphParts", spec := "graphParts", unfollowed := true, recurses := true, apart := false, narrowed := true }
def GraphPartsUptoSaid : Prop := graphPartsUptoRow.holds Try.pinned (OpenSpec.upto graphPartsSpec)

/-- 'gridhalllaw1.GraphPaths', WHERE WHAT IT READS IS OF BULK AT MOST 1048576: true; the input reads as it did. -/
def graphPathsUptoRow : OpenClaim := { program := "ytlcdhgcfamjioaa", sum := "0162060cbe11772ea07196ef49653b7709e2a54357c5d1fb42edfb6de69056ea", func := "gridhall/gridhalllaw1.GraphPaths", spec := "graphPaths", unfollowed := true, recurses := true, apart := false, narrowed := true }
def GraphPathsUptoSaid : Prop := graphPathsUptoRow.holds Try.pinned (OpenSpec.upto graphPathsSpec)

/-- 'gridhalllaw1.NetmodelChecks', WHERE WHAT IT READS IS OF BULK AT MOST 1048576: true; the input reads as it did. -/
def netmodelChecksUptoRow : OpenClaim := { program := "ytlcdhgcfamjioaa", sum := "0162060cbe11772ea07196ef49653b7709e2a54357c5d1fb42edfb6de69056ea", func := "gridhall/gridhalllaw1.NetmodelChecks", spec := "netmodelChecks", unfollowed := true, recurses := true, apart := false, narrowed := true }
def NetmodelChecksUptoSaid : Prop := netmodelChecksUptoRow.holds Try.pinned (OpenSpec.upto netmodelChecksSpec)

/-- 'gridhalllaw1.TopologyParts', WHERE WHAT IT READS IS OF BULK AT MOST 1048576: true; the input reads as it did. -/
def topologyPartsUptoRow : OpenClaim := { program := "ytlcdhgcfamjioaa", sum := "0162060cbe11772ea07196ef49653b7709e2a54357c5d1fb42edfb6de69056ea", func := "gridhall/gridhalllaw1.TopologyParts", spec := "topologyParts", unfollowed := true, recurses := true, apart := false, narrowed := true }
def TopologyPartsUptoSaid : Prop := topologyPartsUptoRow.holds Try.pinned (OpenSpec.upto topologyPartsSpec)

/-- 'gridhalllaw1.StationBuses', WHERE WHAT IT READS IS OF BULK AT MOST 1048576: true; the input reads as it did. -/
def stationBusesUptoRow : OpenClaim := { program := "ytlcdhgcfamjioaa", sum := "0162060cbe11772ea07196ef49653b7709e2a54357c5d1fb42edfb6de69056ea", func := "gridhall/gridhalllaw1.StationBuses", spec := "stationBuses", unfollowed := true, recurses := true, apart := false, narrowed := true }
def StationBusesUptoSaid : Prop := stationBusesUptoRow.holds Try.pinned (OpenSpec.upto stationBusesSpec)

/-- 'gridhalllaw1.StationPaths', WHERE WHAT IT READS IS OF BULK AT MOST 1048576: true; the input reads as it did. -/
def stationPathsUptoRow : OpenClaim := { program := "ytlcdhgcfamjioaa", sum := "0162060cbe11772ea07196ef49653b7709e2a54357c5d1fb42edfb6de69056ea", func := "gridhall/gridhalllaw1.StationPaths", spec := "stationPaths", unfollowed := true, recurses := true, apart := false, narrowed := true }
def StationPathsUptoSaid : Prop := stationPathsUptoRow.holds Try.pinned (OpenSpec.upto stationPathsSpec)

end Rows
end Go.Proofs.Ytlcdhgcfamjioaa
