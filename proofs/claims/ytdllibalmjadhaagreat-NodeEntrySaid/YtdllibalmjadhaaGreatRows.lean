/-
  No cell of these rows narrows 'for every input' (looked for: loops, veiled, ifaces, maps, wideKeys, modest, calm, conditions, laid).
  DERIVED. THE GIVEN ROWS OF THIS SEAT. 5 by the template 'for every input the law returns true; each argument reads behind the call as it read before'; 0 by the template 'total and deterministic' (their statements: YtdllibalmjadhaaGreatTotals.lean).
  GIVEN WITH THE SEED: the statements are not yours to turn. If you find one false, say at which input.
  Laid BY PROGRAM, IN A SANDBOX (cutbox-rows.mjs): the forced cells as the released guide's own fill.sh prints them over the translation 86809e1f13eb1035… (all of the seat's roots in one cut). By AI agents, Wed Nov 11 2026. No macro, syntax, notation, axiom, sorry.
-/
import Derived.Test.YtdllibalmjadhaaGreatChecked
import GoSem.Claim
import GoSem.ClaimJoined
import GoSem.ClaimMapViews
import Derived.JoinedTies
import Derived.KernelRfl
namespace Go.Proofs.YtdllibalmjadhaaGreat
/- THE CELL 'sum', in the pinned program and in every row, IS THE sha256 OF THE DUMP (.gsa) THAT YtdllibalmjadhaaGreatProg.lean LOADS. Nothing in Lean hashes anything: it is a label: what it is worth is what the hold of that sum in a sandbox is worth. -/
noncomputable def Tryz.pinned : Pinned := { name := "ytdllibalmjadhaagreat", sum := "86809e1f13eb10353572acf40052b4f56310fef7768c6b4fdb83224842f3fa25", checked := Tryz.checked }
namespace Rows
def none {H : Type} : Left H := { results := [], args := [] }

/-- 'petasoslaw21.NodeWaits': WHATEVER THE INPUT: true; the input reads as it did. -/
def nodeWaitsSpec : ChangeSpec := { name := "nodeWaits", fn := fun _ => fun
  | [d1, d2, d3, d4] => { results := [.lit (.bool true)], args := [d1, d2, d3, d4] }
  | _ => none }
def nodeWaitsRow : OpenClaim := { program := "ytdllibalmjadhaagreat", sum := "86809e1f13eb10353572acf40052b4f56310fef7768c6b4fdb83224842f3fa25", func := "petasos/petasoslaw21.NodeWaits", spec := "nodeWaits", inPlace := ["slices.overlaps[uint32]", "maps.clone"], unfollowed := true, recurses := true, plainKeys := false, apart := false }
def NodeWaitsSaid : Prop := nodeWaitsRow.holds Tryz.pinned (OpenSpec.ofChange nodeWaitsSpec)

/-- ITS FALSE NEIGHBOUR: 'it returns false'. Refute it at one input. -/
def nodeWaitsWrong : ChangeSpec := { name := "nodeWaits", fn := fun _ => fun
  | [d1, d2, d3, d4] => { results := [.lit (.bool false)], args := [d1, d2, d3, d4] }
  | _ => none }
def NodeWaitsWrongFalsely : Prop := nodeWaitsRow.holds Tryz.pinned (OpenSpec.ofChange nodeWaitsWrong)

/-- 'petasoslaw21.NodeForwards': WHATEVER THE INPUT: true; the input reads as it did. -/
def nodeForwardsSpec : ChangeSpec := { name := "nodeForwards", fn := fun _ => fun
  | [d1, d2, d3, d4, d5] => { results := [.lit (.bool true)], args := [d1, d2, d3, d4, d5] }
  | _ => none }
def nodeForwardsRow : OpenClaim := { program := "ytdllibalmjadhaagreat", sum := "86809e1f13eb10353572acf40052b4f56310fef7768c6b4fdb83224842f3fa25", func := "petasos/petasoslaw21.NodeForwards", spec := "nodeForwards", inPlace := ["slices.overlaps[uint32]", "maps.clone"], unfollowed := true, recurses := true, plainKeys := false, apart := false }
def NodeForwardsSaid : Prop := nodeForwardsRow.holds Tryz.pinned (OpenSpec.ofChange nodeForwardsSpec)

/-- ITS FALSE NEIGHBOUR: 'it returns false'. Refute it at one input. -/
def nodeForwardsWrong : ChangeSpec := { name := "nodeForwards", fn := fun _ => fun
  | [d1, d2, d3, d4, d5] => { results := [.lit (.bool false)], args := [d1, d2, d3, d4, d5] }
  | _ => none }
def NodeForwardsWrongFalsely : Prop := nodeForwardsRow.holds Tryz.pinned (OpenSpec.ofChange nodeForwardsWrong)

/-- 'petasoslaw21.NodeRefuses': WHATEVER THE INPUT: true; the input reads as it did. -/
def nodeRefusesSpec : ChangeSpec := { name := "nodeRefuses", fn := fun _ => fun
  | [d1, d2] => { results := [.lit (.bool true)], args := [d1, d2] }
  | _ => none }
def nodeRefusesRow : OpenClaim := { program := "ytdllibalmjadhaagreat", sum := "86809e1f13eb10353572acf40052b4f56310fef7768c6b4fdb83224842f3fa25", func := "petasos/petasoslaw21.NodeRefuses", spec := "nodeRefuses", inPlace := ["slices.overlaps[uint32]", "maps.clone"], unfollowed := true, recurses := true, plainKeys := false, apart := false }
def NodeRefusesSaid : Prop := nodeRefusesRow.holds Tryz.pinned (OpenSpec.ofChange nodeRefusesSpec)

/-- ITS FALSE NEIGHBOUR: 'it returns false'. Refute it at one input. -/
def nodeRefusesWrong : ChangeSpec := { name := "nodeRefuses", fn := fun _ => fun
  | [d1, d2] => { results := [.lit (.bool false)], args := [d1, d2] }
  | _ => none }
def NodeRefusesWrongFalsely : Prop := nodeRefusesRow.holds Tryz.pinned (OpenSpec.ofChange nodeRefusesWrong)

/-- 'petasoslaw21.NodeStores': WHATEVER THE INPUT: true; the input reads as it did. -/
def nodeStoresSpec : ChangeSpec := { name := "nodeStores", fn := fun _ => fun
  | [d1, d2, d3, d4, d5, d6] => { results := [.lit (.bool true)], args := [d1, d2, d3, d4, d5, d6] }
  | _ => none }
def nodeStoresRow : OpenClaim := { program := "ytdllibalmjadhaagreat", sum := "86809e1f13eb10353572acf40052b4f56310fef7768c6b4fdb83224842f3fa25", func := "petasos/petasoslaw21.NodeStores", spec := "nodeStores", inPlace := ["slices.overlaps[uint32]", "maps.clone"], unfollowed := true, recurses := true, plainKeys := false, apart := false }
def NodeStoresSaid : Prop := nodeStoresRow.holds Tryz.pinned (OpenSpec.ofChange nodeStoresSpec)

/-- ITS FALSE NEIGHBOUR: 'it returns false'. Refute it at one input. -/
def nodeStoresWrong : ChangeSpec := { name := "nodeStores", fn := fun _ => fun
  | [d1, d2, d3, d4, d5, d6] => { results := [.lit (.bool false)], args := [d1, d2, d3, d4, d5, d6] }
  | _ => none }
def NodeStoresWrongFalsely : Prop := nodeStoresRow.holds Tryz.pinned (OpenSpec.ofChange nodeStoresWrong)

/-- 'petasoslaw21.NodeEntry': WHATEVER THE INPUT: true; the input reads as it did. -/
def nodeEntrySpec : ChangeSpec := { name := "nodeEntry", fn := fun _ => fun
  | [d1, d2, d3] => { results := [.lit (.bool true)], args := [d1, d2, d3] }
  | _ => none }
def nodeEntryRow : OpenClaim := { program := "ytdllibalmjadhaagreat", sum := "86809e1f13eb10353572acf40052b4f56310fef7768c6b4fdb83224842f3fa25", func := "petasos/petasoslaw21.NodeEntry", spec := "nodeEntry", inPlace := ["slices.overlaps[uint32]", "maps.clone"], unfollowed := true, recurses := true, plainKeys := false, apart := false }
def NodeEntrySaid : Prop := nodeEntryRow.holds Tryz.pinned (OpenSpec.ofChange nodeEntrySpec)

/-- ITS FALSE NEIGHBOUR: 'it returns false'. Refute it at one input. -/
def nodeEntryWrong : ChangeSpec := { name := "nodeEntry", fn := fun _ => fun
  | [d1, d2, d3] => { results := [.lit (.bool false)], args := [d1, d2, d3] }
  | _ => none }
def NodeEntryWrongFalsely : Prop := nodeEntryRow.holds Tryz.pinned (OpenSpec.ofChange nodeEntryWrong)

/- THE SECOND FORM. 'bulk': how many values and letters a reading holds, each counted each time it is reached (what is shared counts as often as it is met; a slice's spare places count too). A statement '..UptoSaid' is the law's where the arguments, and the package variables that the reading takes, are together of bulk at most 1048576: NARROWER than '..Said'. Prove '..Said' where nothing that the law and all that it calls make is longer than what came in: it says more and counts as full. Else prove '..UptoSaid'. A law counts once. -/
mutual
def uptoBulk {H : Type} : DataW H → Nat
  | .lit (.string bytes) => bytes.length + 1
  | .lit _ => 1
  | .nil => 1
  | .ptr d => uptoBulk d + 1
  | .slice elems spare => uptoBulkAll elems + uptoBulkAll spare + 1
  | .agg parts => uptoBulkAll parts + 1
  | .iface _ d => uptoBulk d + 1
  | .map entries => uptoBulkEntries entries + 1
  | .held _ => 1
def uptoBulkAll {H : Type} : List (DataW H) → Nat
  | [] => 0
  | d :: r => uptoBulk d + uptoBulkAll r
def uptoBulkEntries {H : Type} : List (Lit × DataW H) → Nat
  | [] => 0
  | x :: r => uptoBulkEntry x + uptoBulkEntries r
def uptoBulkEntry {H : Type} : Lit × DataW H → Nat
  | (.string bytes, d) => bytes.length + uptoBulk d + 1
  | (_, d) => uptoBulk d + 1
 end
def uptoSmall : (H : Type) → List (DataW H) → Bool := fun _ ds => decide (uptoBulkAll ds ≤ 1048576)
def OpenSpec.upto (s : _root_.Go.ChangeSpec) : _root_.Go.OpenSpec := { _root_.Go.OpenSpec.ofChange s with cond := some uptoSmall }

/-- 'petasoslaw21.NodeWaits', WHERE WHAT IT READS IS OF BULK AT MOST 1048576: true; the input reads as it did. -/
def nodeWaitsUptoRow : OpenClaim := { program := "ytdllibalmjadhaagreat", sum := "86809e1f13eb10353572acf40052b4f56310fef7768c6b4fdb83224842f3fa25", func := "petasos/petasoslaw21.NodeWaits", spec := "nodeWaits", inPlace := ["slices.overlaps[uint32]", "maps.clone"], unfollowed := true, recurses := true, plainKeys := false, apart := false, narrowed := true }
def NodeWaitsUptoSaid : Prop := nodeWaitsUptoRow.holds Tryz.pinned (OpenSpec.upto nodeWaitsSpec)

/-- 'petasoslaw21.NodeForwards', WHERE WHAT IT READS IS OF BULK AT MOST 1048576: true; the input reads as it did. -/
def nodeForwardsUptoRow : OpenClaim := { program := "ytdllibalmjadhaagreat", sum := "86809e1f13eb10353572acf40052b4f56310fef7768c6b4fdb83224842f3fa25", func := "petasos/petasoslaw21.NodeForwards", spec := "nodeForwards", inPlace := ["slices.overlaps[uint32]", "maps.clone"], unfollowed := true, recurses := true, plainKeys := false, apart := false, narrowed := true }
def NodeForwardsUptoSaid : Prop := nodeForwardsUptoRow.holds Tryz.pinned (OpenSpec.upto nodeForwardsSpec)

/-- 'petasoslaw21.NodeRefuses', WHERE WHAT IT READS IS OF BULK AT MOST 1048576: true; the input reads as it did. -/
def nodeRefusesUptoRow : OpenClaim := { program := "ytdllibalmjadhaagreat", sum := "86809e1f13eb10353572acf40052b4f56310fef7768c6b4fdb83224842f3fa25", func := "petasos/petasoslaw21.NodeRefuses", spec := "nodeRefuses", inPlace := ["slices.overlaps[uint32]", "maps.clone"], unfollowed := true, recurses := true, plainKeys := false, apart := false, narrowed := true }
def NodeRefusesUptoSaid : Prop := nodeRefusesUptoRow.holds Tryz.pinned (OpenSpec.upto nodeRefusesSpec)

/-- 'petasoslaw21.NodeStores', WHERE WHAT IT READS IS OF BULK AT MOST 1048576: true; the input reads as it did. -/
def nodeStoresUptoRow : OpenClaim := { program := "ytdllibalmjadhaagreat", sum := "86809e1f13eb10353572acf40052b4f56310fef7768c6b4fdb83224842f3fa25", func := "petasos/petasoslaw21.NodeStores", spec := "nodeStores", inPlace := ["slices.overlaps[uint32]", "maps.clone"], unfollowed := true, recurses := true, plainKeys := false, apart := false, narrowed := true }
def NodeStoresUptoSaid : Prop := nodeStoresUptoRow.holds Tryz.pinned (OpenSpec.upto nodeStoresSpec)

/-- 'petasoslaw21.NodeEntry', WHERE WHAT IT READS IS OF BULK AT MOST 1048576: true; the input reads as it did. -/
def nodeEntryUptoRow : OpenClaim := { program := "ytdllibalmjadhaagreat", sum := "86809e1f13eb10353572acf40052b4f56310fef7768c6b4fdb83224842f3fa25", func := "petasos/petasoslaw21.NodeEntry", spec := "nodeEntry", inPlace := ["slices.overlaps[uint32]", "maps.clone"], unfollowed := true, recurses := true, plainKeys := false, apart := false, narrowed := true }
def NodeEntryUptoSaid : Prop := nodeEntryUptoRow.holds Tryz.pinned (OpenSpec.upto nodeEntrySpec)

end Rows
end Go.Proofs.YtdllibalmjadhaaGreat
