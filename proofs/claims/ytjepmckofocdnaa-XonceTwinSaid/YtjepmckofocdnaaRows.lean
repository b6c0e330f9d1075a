/-
  No cell of these rows narrows 'for every input' (looked for: loops, veiled, ifaces, maps, wideKeys, modest, calm, conditions, laid).
  DERIVED. THE GIVEN ROWS OF THIS SEAT. 12 by the template 'for every input the law returns true; each argument reads behind the call as it read before'; 0 by the template 'total and deterministic' (their statements: YtjepmckofocdnaaTotals.lean).
  GIVEN WITH THE SEED: the statements are not yours to turn. If you find one false, say at which input.
  Laid BY PROGRAM, IN A SANDBOX (cutbox-rows.mjs): the forced cells as the released guide's own fill.sh prints them over the translation 520d82a4a1083fc6… (all of the seat's roots in one cut). By AI agents, Wed Nov 11 2026. No macro, syntax, notation, axiom, sorry.
-/
import Derived.Test.YtjepmckofocdnaaChecked
import GoSem.Claim
import GoSem.ClaimJoined
import GoSem.ClaimMapViews
import Derived.JoinedTies
import Derived.KernelRfl
namespace Go.Proofs.Ytjepmckofocdnaa
/- THE CELL 'sum', in the pinned program and in every row, IS THE sha256 OF THE DUMP (.gsa) THAT YtjepmckofocdnaaProg.lean LOADS. Nothing in Lean hashes anything: it is a label: what it is worth is what the hold of that sum in a sandbox is worth. -/
noncomputable def Try.pinned : Pinned := { name := "ytjepmckofocdnaa", sum := "520d82a4a1083fc66ef09e3910c1b14c5d7e779835c35c7e43199057ef85ad53", checked := Try.checked }
namespace Rows
def none {H : Type} : Left H := { results := [], args := [] }

/-- 'shardlaw8.XonceLoads': WHATEVER THE INPUT: true; the input reads as it did. -/
def xonceLoadsSpec : ChangeSpec := { name := "xonceLoads", fn := fun _ => fun
  | [d] => { results := [.lit (.bool true)], args := [d] }
  | _ => none }
def xonceLoadsRow : OpenClaim := { program := "ytjepmckofocdnaa", sum := "520d82a4a1083fc66ef09e3910c1b14c5d7e779835c35c7e43199057ef85ad53", func := "shard/shardlaw8.XonceLoads", spec := "xonceLoads", unfollowed := true, recurses := true, apart := false }
def XonceLoadsSaid : Prop := xonceLoadsRow.holds Try.pinned (OpenSpec.ofChange xonceLoadsSpec)

/-- ITS FALSE NEIGHBOUR: 'it returns false'. Refute it at one input. -/
def xonceLoadsWrong : ChangeSpec := { name := "xonceLoads", fn := fun _ => fun
  | [d] => { results := [.lit (.bool false)], args := [d] }
  | _ => none }
def XonceLoadsWrongFalsely : Prop := xonceLoadsRow.holds Try.pinned (OpenSpec.ofChange xonceLoadsWrong)

/-- 'shardlaw8.XonceSends': WHATEVER THE INPUT: true; the input reads as it did. -/
def xonceSendsSpec : ChangeSpec := { name := "xonceSends", fn := fun _ => fun
  | [d1, d2] => { results := [.lit (.bool true)], args := [d1, d2] }
  | _ => none }
def xonceSendsRow : OpenClaim := { program := "ytjepmckofocdnaa", sum := "520d82a4a1083fc66ef09e3910c1b14c5d7e779835c35c7e43199057ef85ad53", func := "shard/shardlaw8.XonceSends", spec := "xonceSends", inPlace := ["slices.overlaps[shard/api.Frame]"], unfollowed := true, recurses := true, apart := false }
def XonceSendsSaid : Prop := xonceSendsRow.holds Try.pinned (OpenSpec.ofChange xonceSendsSpec)

/-- ITS FALSE NEIGHBOUR: 'it returns false'. Refute it at one input. -/
def xonceSendsWrong : ChangeSpec := { name := "xonceSends", fn := fun _ => fun
  | [d1, d2] => { results := [.lit (.bool false)], args := [d1, d2] }
  | _ => none }
def XonceSendsWrongFalsely : Prop := xonceSendsRow.holds Try.pinned (OpenSpec.ofChange xonceSendsWrong)

/-- 'shardlaw8.XonceTakes': WHATEVER THE INPUT: true; the input reads as it did. -/
def xonceTakesSpec : ChangeSpec := { name := "xonceTakes", fn := fun _ => fun
  | [d1, d2] => { results := [.lit (.bool true)], args := [d1, d2] }
  | _ => none }
def xonceTakesRow : OpenClaim := { program := "ytjepmckofocdnaa", sum := "520d82a4a1083fc66ef09e3910c1b14c5d7e779835c35c7e43199057ef85ad53", func := "shard/shardlaw8.XonceTakes", spec := "xonceTakes", inPlace := ["slices.overlaps[shard/api.Frame]"], unfollowed := true, recurses := true, apart := false }
def XonceTakesSaid : Prop := xonceTakesRow.holds Try.pinned (OpenSpec.ofChange xonceTakesSpec)

/-- ITS FALSE NEIGHBOUR: 'it returns false'. Refute it at one input. -/
def xonceTakesWrong : ChangeSpec := { name := "xonceTakes", fn := fun _ => fun
  | [d1, d2] => { results := [.lit (.bool false)], args := [d1, d2] }
  | _ => none }
def XonceTakesWrongFalsely : Prop := xonceTakesRow.holds Try.pinned (OpenSpec.ofChange xonceTakesWrong)

/-- 'shardlaw8.XonceAsks': WHATEVER THE INPUT: true; the input reads as it did. -/
def xonceAsksSpec : ChangeSpec := { name := "xonceAsks", fn := fun _ => fun
  | [d1, d2] => { results := [.lit (.bool true)], args := [d1, d2] }
  | _ => none }
def xonceAsksRow : OpenClaim := { program := "ytjepmckofocdnaa", sum := "520d82a4a1083fc66ef09e3910c1b14c5d7e779835c35c7e43199057ef85ad53", func := "shard/shardlaw8.XonceAsks", spec := "xonceAsks", inPlace := ["slices.overlaps[shard/api.Frame]"], unfollowed := true, recurses := true, apart := false }
def XonceAsksSaid : Prop := xonceAsksRow.holds Try.pinned (OpenSpec.ofChange xonceAsksSpec)

/-- ITS FALSE NEIGHBOUR: 'it returns false'. Refute it at one input. -/
def xonceAsksWrong : ChangeSpec := { name := "xonceAsks", fn := fun _ => fun
  | [d1, d2] => { results := [.lit (.bool false)], args := [d1, d2] }
  | _ => none }
def XonceAsksWrongFalsely : Prop := xonceAsksRow.holds Try.pinned (OpenSpec.ofChange xonceAsksWrong)

/-- 'shardlaw8.XonceAll': WHATEVER THE INPUT: true; the input reads as it did. -/
def xonceAllSpec : ChangeSpec := { name := "xonceAll", fn := fun _ => fun
  | [d1, d2] => { results := [.lit (.bool true)], args := [d1, d2] }
  | _ => none }
def xonceAllRow : OpenClaim := { program := "ytjepmckofocdnaa", sum := "520d82a4a1083fc66ef09e3910c1b14c5d7e779835c35c7e43199057ef85ad53", func := "shard/shardlaw8.XonceAll", spec := "xonceAll", inPlace := ["slices.overlaps[shard/api.Frame]"], unfollowed := true, recurses := true, apart := false }
def XonceAllSaid : Prop := xonceAllRow.holds Try.pinned (OpenSpec.ofChange xonceAllSpec)

/-- ITS FALSE NEIGHBOUR: 'it returns false'. Refute it at one input. -/
def xonceAllWrong : ChangeSpec := { name := "xonceAll", fn := fun _ => fun
  | [d1, d2] => { results := [.lit (.bool false)], args := [d1, d2] }
  | _ => none }
def XonceAllWrongFalsely : Prop := xonceAllRow.holds Try.pinned (OpenSpec.ofChange xonceAllWrong)

/-- 'shardlaw8.XonceFresh': WHATEVER THE INPUT: true; the input reads as it did. -/
def xonceFreshSpec : ChangeSpec := { name := "xonceFresh", fn := fun _ => fun
  | [d1, d2] => { results := [.lit (.bool true)], args := [d1, d2] }
  | _ => none }
def xonceFreshRow : OpenClaim := { program := "ytjepmckofocdnaa", sum := "520d82a4a1083fc66ef09e3910c1b14c5d7e779835c35c7e43199057ef85ad53", func := "shard/shardlaw8.XonceFresh", spec := "xonceFresh", inPlace := ["slices.overlaps[shard/api.Frame]"], unfollowed := true, recurses := true, apart := false }
def XonceFreshSaid : Prop := xonceFreshRow.holds Try.pinned (OpenSpec.ofChange xonceFreshSpec)

/-- ITS FALSE NEIGHBOUR: 'it returns false'. Refute it at one input. -/
def xonceFreshWrong : ChangeSpec := { name := "xonceFresh", fn := fun _ => fun
  | [d1, d2] => { results := [.lit (.bool false)], args := [d1, d2] }
  | _ => none }
def XonceFreshWrongFalsely : Prop := xonceFreshRow.holds Try.pinned (OpenSpec.ofChange xonceFreshWrong)

/-- 'shardlaw8.XonceSpent': WHATEVER THE INPUT: true; the input reads as it did. -/
def xonceSpentSpec : ChangeSpec := { name := "xonceSpent", fn := fun _ => fun
  | [d1, d2, d3, d4] => { results := [.lit (.bool true)], args := [d1, d2, d3, d4] }
  | _ => none }
def xonceSpentRow : OpenClaim := { program := "ytjepmckofocdnaa", sum := "520d82a4a1083fc66ef09e3910c1b14c5d7e779835c35c7e43199057ef85ad53", func := "shard/shardlaw8.XonceSpent", spec := "xonceSpent", inPlace := ["slices.overlaps[shard/api.Frame]"], unfollowed := true, recurses := true, apart := false }
def XonceSpentSaid : Prop := xonceSpentRow.holds Try.pinned (OpenSpec.ofChange xonceSpentSpec)

/-- ITS FALSE NEIGHBOUR: 'it returns false'. Refute it at one input. -/
def xonceSpentWrong : ChangeSpec := { name := "xonceSpent", fn := fun _ => fun
  | [d1, d2, d3, d4] => { results := [.lit (.bool false)], args := [d1, d2, d3, d4] }
  | _ => none }
def XonceSpentWrongFalsely : Prop := xonceSpentRow.holds Try.pinned (OpenSpec.ofChange xonceSpentWrong)

/-- 'shardlaw8.XonceOrder': WHATEVER THE INPUT: true; the input reads as it did. -/
def xonceOrderSpec : ChangeSpec := { name := "xonceOrder", fn := fun _ => fun
  | [d1, d2, d3, d4] => { results := [.lit (.bool true)], args := [d1, d2, d3, d4] }
  | _ => none }
def xonceOrderRow : OpenClaim := { program := "ytjepmckofocdnaa", sum := "520d82a4a1083fc66ef09e3910c1b14c5d7e779835c35c7e43199057ef85ad53", func := "shard/shardlaw8.XonceOrder", spec := "xonceOrder", inPlace := ["slices.overlaps[shard/api.Frame]"], unfollowed := true, recurses := true, apart := false }
def XonceOrderSaid : Prop := xonceOrderRow.holds Try.pinned (OpenSpec.ofChange xonceOrderSpec)

/-- ITS FALSE NEIGHBOUR: 'it returns false'. Refute it at one input. -/
def xonceOrderWrong : ChangeSpec := { name := "xonceOrder", fn := fun _ => fun
  | [d1, d2, d3, d4] => { results := [.lit (.bool false)], args := [d1, d2, d3, d4] }
  | _ => none }
def XonceOrderWrongFalsely : Prop := xonceOrderRow.holds Try.pinned (OpenSpec.ofChange xonceOrderWrong)

/-- 'shardlaw8.XonceWindow': WHATEVER THE INPUT: true; the input reads as it did. -/
def xonceWindowSpec : ChangeSpec := { name := "xonceWindow", fn := fun _ => fun
  | [d1, d2, d3, d4] => { results := [.lit (.bool true)], args := [d1, d2, d3, d4] }
  | _ => none }
def xonceWindowRow : OpenClaim := { program := "ytjepmckofocdnaa", sum := "520d82a4a1083fc66ef09e3910c1b14c5d7e779835c35c7e43199057ef85ad53", func := "shard/shardlaw8.XonceWindow", spec := "xonceWindow", inPlace := ["slices.overlaps[shard/api.Frame]"], unfollowed := true, recurses := true, apart := false }
def XonceWindowSaid : Prop := xonceWindowRow.holds Try.pinned (OpenSpec.ofChange xonceWindowSpec)

/-- ITS FALSE NEIGHBOUR: 'it returns false'. Refute it at one input. -/
def xonceWindowWrong : ChangeSpec := { name := "xonceWindow", fn := fun _ => fun
  | [d1, d2, d3, d4] => { results := [.lit (.bool false)], args := [d1, d2, d3, d4] }
  | _ => none }
def XonceWindowWrongFalsely : Prop := xonceWindowRow.holds Try.pinned (OpenSpec.ofChange xonceWindowWrong)

/-- 'shardlaw8.XonceTwin': WHATEVER THE INPUT: true; the input reads as it did. -/
def xonceTwinSpec : ChangeSpec := { name := "xonceTwin", fn := fun _ => fun
  | [d1, d2, d3] => { results := [.lit (.bool true)], args := [d1, d2, d3] }
  | _ => none }
def xonceTwinRow : OpenClaim := { program := "ytjepmckofocdnaa", sum := "520d82a4a1083fc66ef09e3910c1b14c5d7e779835c35c7e43199057ef85ad53", func := "shard/shardlaw8.XonceTwin", spec := "xonceTwin", inPlace := ["slices.overlaps[shard/api.Frame]"], unfollowed := true, recurses := true, apart := false }
def XonceTwinSaid : Prop := xonceTwinRow.holds Try.pinned (OpenSpec.ofChange xonceTwinSpec)

/-- ITS FALSE NEIGHBOUR: 'it returns false'. Refute it at one input. -/
def xonceTwinWrong : ChangeSpec := { name := "xonceTwin", fn := fun _ => fun
  | [d1, d2, d3] => { results := [.lit (.bool false)], args := [d1, d2, d3] }
  | _ => none }
def XonceTwinWrongFalsely : Prop := xonceTwinRow.holds Try.pinned (OpenSpec.ofChange xonceTwinWrong)

/-- 'shardlaw8.XonceRest': WHATEVER THE INPUT: true; the input reads as it did. -/
def xonceRestSpec : ChangeSpec := { name := "xonceRest", fn := fun _ => fun
  | [d1, d2, d3, d4, d5] => { results := [.lit (.bool true)], args := [d1, d2, d3, d4, d5] }
  | _ => none }
def xonceRestRow : OpenClaim := { program := "ytjepmckofocdnaa", sum := "520d82a4a1083fc66ef09e3910c1b14c5d7e779835c35c7e43199057ef85ad53", func := "shard/shardlaw8.XonceRest", spec := "xonceRest", inPlace := ["slices.overlaps[shard/api.Frame]"], unfollowed := true, recurses := true, apart := false }
def XonceRestSaid : Prop := xonceRestRow.holds Try.pinned (OpenSpec.ofChange xonceRestSpec)

/-- ITS FALSE NEIGHBOUR: 'it returns false'. Refute it at one input. -/
def xonceRestWrong : ChangeSpec := { name := "xonceRest", fn := fun _ => fun
  | [d1, d2, d3, d4, d5] => { results := [.lit (.bool false)], args := [d1, d2, d3, d4, d5] }
  | _ => none }
def XonceRestWrongFalsely : Prop := xonceRestRow.holds Try.pinned (OpenSpec.ofChange xonceRestWrong)

/-- 'shardlaw8.XonceRefused': WHATEVER THE INPUT: true; the input reads as it did. -/
def xonceRefusedSpec : ChangeSpec := { name := "xonceRefused", fn := fun _ => fun
  | [d1, d2] => { results := [.lit (.bool true)], args := [d1, d2] }
  | _ => none }
def xonceRefusedRow : OpenClaim := { program := "ytjepmckofocdnaa", sum := "520d82a4a1083fc66ef09e3910c1b14c5d7e779835c35c7e43199057ef85ad53", func := "shard/shardlaw8.XonceRefused", spec := "xonceRefused", inPlace := ["slices.overlaps[shard/api.Frame]"], unfollowed := true, recurses := true, apart := false }
def XonceRefusedSaid : Prop := xonceRefusedRow.holds Try.pinned (OpenSpec.ofChange xonceRefusedSpec)

/-- ITS FALSE NEIGHBOUR: 'it returns false'. Refute it at one input. -/
def xonceRefusedWrong : ChangeSpec := { name := "xonceRefused", fn := fun _ => fun
  | [d1, d2] => { results := [.lit (.bool false)], args := [d1, d2] }
  | _ => none }
def XonceRefusedWrongFalsely : Prop := xonceRefusedRow.holds Try.pinned (OpenSpec.ofChange xonceRefusedWrong)

/- THE SECOND FORM. 'bulk': how many values and letters a reading holds, each counted each time it is reached (what is shared counts as often as it is met; a slice's spare places count too). A statement '..UptoSaid' is the law's where the arguments, and the package variables that the reading takes, are together of bulk at most 1048576: NARROWER than '..Said'. Prove '..Said' where nothing that the law and all that it calls make is longer than what came in: it says more and counts as full. Else prove '..UptoSaid'. A law counts once. -/
mutual
def uptoBulk {H : Type} : DataW H → Nat
  | .lit (.string bytes) => bytes.length + 1
  | .lit _ => 1
  | .nil => 1
  | .ptr d => uptoBulk d + 1
  | .slice elems spare => uptoBulkAll elems + uptoBulkAll spare + 1
  | .agg parts => uptoBulkAll parts + 1
  | .iface _ d => uptoBulk d + 1
  | .map entries => uptoBulkEntries entries + 1
  | .held _ => 1
def uptoBulkAll {H : Type} : List (DataW H) → Nat
  | [] => 0
  | d :: r => uptoBulk d + uptoBulkAll r
def uptoBulkEntries {H : Type} : List (Lit × DataW H) → Nat
  | [] => 0
  | x :: r => uptoBulkEntry x + uptoBulkEntries r
def uptoBulkEntry {H : Type} : Lit × DataW H → Nat
  | (.string bytes, d) => bytes.length + uptoBulk d + 1
  | (_, d) => uptoBulk d + 1
 end
def uptoSmall : (H : Type) → List (DataW H) → Bool := fun _ ds => decide (uptoBulkAll ds ≤ 1048576)
def OpenSpec.upto (s : _root_.Go.ChangeSpec) : _root_.Go.OpenSpec := { _root_.Go.OpenSpec.ofChange s with cond := some uptoSmall }

/-- 'shardlaw8.XonceLoads', WHERE WHAT IT READS IS OF BULK AT MOST 1048576: true; the input reads as it did. -/
def xonceLoadsUptoRow : OpenClaim := { program := "ytjepmckofocdnaa", sum := "520d82a4a1083fc66ef09e3910c1b14c5d7e779835c35c7e43199057ef85ad53", func := "shard/shardlaw8.XonceLoads", spec := "xonceLoads", unfollowed := true, recurses := true, apart := false, narrowed := true }
def XonceLoadsUptoSaid : Prop := xonceLoadsUptoRow.holds Try.pinned (OpenSpec.upto xonceLoadsSpec)

/-- 'shardlaw8.XonceSends', WHERE WHAT IT READS IS OF BULK AT MOST 1048576: true; the input reads as it did. -/
def xonceSendsUptoRow : OpenClaim := { program := "ytjepmckofocdnaa", sum := "520d82a4a1083fc66ef09e3910c1b14c5d7e779835c35c7e43199057ef85ad53", func := "shard/shardlaw8.XonceSends", spec := "xonceSends", inPlace := ["slices.overlaps[shard/api.Frame]"], unfollowed := true, recurses := true, apart := false, narrowed := true }
def XonceSendsUptoSaid : Prop := xonceSendsUptoRow.holds Try.pinned (OpenSpec.upto xonceSendsSpec)

/-- 'shardlaw8.XonceTakes', WHERE WHAT IT READS IS OF BULK AT MOST 1048576: true; the input reads as it did. -/
def xonceTakesUptoRow : OpenClaim := { program := "ytjepmckofocdnaa", sum := "520d82a4a1083fc66ef09e3910c1b14c5d7e779835c35c7e43199057ef85ad53", func := "shard/shardlaw8.XonceTakes", spec := "xonceTakes", inPlace := ["slices.overlaps[shard/api.Frame]"], unfollowed := true, recurses := true, apart := false, narrowed := true }
def XonceTakesUptoSaid : Prop := xonceTakesUptoRow.holds Try.pinned (OpenSpec.upto xonceTakesSpec)

/-- 'shardlaw8.XonceAsks', WHERE WHAT IT READS IS OF BULK AT MOST 1048576: true; the input reads as it did. -/
def xonceAsksUptoRow : OpenClaim := { program := "ytjepmckofocdnaa", sum := "520d82a4a1083fc66ef09e3910c1b14c5d7e779835c35c7e43199057ef85ad53", func := "shard/shardlaw8.XonceAsks", spec := "xonceAsks", inPlace := ["slices.overlaps[shard/api.Frame]"], unfollowed := true, recurses := true, apart := false, narrowed := true }
def XonceAsksUptoSaid : Prop := xonceAsksUptoRow.holds Try.pinned (OpenSpec.upto xonceAsksSpec)

/-- 'shardlaw8.XonceAll', WHERE WHAT IT READS IS OF BULK AT MOST 1048576: true; the input reads as it did. -/
def xonceAllUptoRow : OpenClaim := { program := "ytjepmckofocdnaa", sum := "520d82a4a1083fc66ef09e3910c1b14c5d7e779835c35c7e43199057ef85ad53", func := "shard/shardlaw8.XonceAll", spec := "xonceAll", inPlace := ["slices.overlaps[shard/api.Frame]"], unfollowed := true, recurses := true, apart := false, narrowed := true }
def XonceAllUptoSaid : Prop := xonceAllUptoRow.holds Try.pinned (OpenSpec.upto xonceAllSpec)

/-- 'shardlaw8.XonceFresh', WHERE WHAT IT READS IS OF BULK AT MOST 1048576: true; the input reads as it did. -/
def xonceFreshUptoRow : OpenClaim := { program := "ytjepmckofocdnaa", sum := "520d82a4a1083fc66ef09e3910c1b14c5d7e779835c35c7e43199057ef85ad53", func := "shard/shardlaw8.XonceFresh", spec := "xonceFresh", inPlace := ["slices.overlaps[shard/api.Frame]"], unfollowed := true, recurses := true, apart := false, narrowed := true }
def XonceFreshUptoSaid : Prop := xonceFreshUptoRow.holds Try.pinned (OpenSpec.upto xonceFreshSpec)

/-- 'shardlaw8.XonceSpent', WHERE WHAT IT READS IS OF BULK AT MOST 1048576: true; the input reads as it did. -/
def xonceSpentUptoRow : OpenClaim := { program := "ytjepmckofocdnaa", sum := "520d82a4a1083fc66ef09e3910c1b14c5d7e779835c35c7e43199057ef85ad53", func := "shard/shardlaw8.XonceSpent", spec := "xonceSpent", inPlace := ["slices.overlaps[shard/api.Frame]"], unfollowed := true, recurses := true, apart := false, narrowed := true }
def XonceSpentUptoSaid : Prop := xonceSpentUptoRow.holds Try.pinned (OpenSpec.upto xonceSpentSpec)

/-- 'shardlaw8.XonceOrder', WHERE WHAT IT READS IS OF BULK AT MOST 1048576: true; the input reads as it did. -/
def xonceOrderUptoRow : OpenClaim := { program := "ytjepmckofocdnaa", sum := "520d82a4a1083fc66ef09e3910c1b14c5d7e779835c35c7e43199057ef85ad53", func := "shard/shardlaw8.XonceOrder", spec := "xonceOrder", inPlace := ["slices.overlaps[shard/api.Frame]"], unfollowed := true, recurses := true, apart := false, narrowed := true }
def XonceOrderUptoSaid : Prop := xonceOrderUptoRow.holds Try.pinned (OpenSpec.upto xonceOrderSpec)

/-- 'shardlaw8.XonceWindow', WHERE WHAT IT READS IS OF BULK AT MOST 1048576: true; the input reads as it did. -/
def xonceWindowUptoRow : OpenClaim := { program := "ytjepmckofocdnaa", sum := "520d82a4a1083fc66ef09e3910c1b14c5d7e779835c35c7e43199057ef85ad53", func := "shard/shardlaw8.XonceWindow", spec := "xonceWindow", inPlace := ["slices.overlaps[shard/api.Frame]"], unfollowed := true, recurses := true, apart := false, narrowed := true }
def XonceWindowUptoSaid : Prop := xonceWindowUptoRow.holds Try.pinned (OpenSpec.upto xonceWindowSpec)

/-- 'shardlaw8.XonceTwin', WHERE WHAT IT READS IS OF BULK AT MOST 1048576: true; the input reads as it did. -/
def xonceTwinUptoRow : OpenClaim := { program := "ytjepmckofocdnaa", sum := "520d82a4a1083fc66ef09e3910c1b14c5d7e779835c35c7e43199057ef85ad53", func := "shard/shardlaw8.XonceTwin", spec := "xonceTwin", inPlace := ["slices.overlaps[shard/api.Frame]"], unfollowed := true, recurses := true, apart := false, narrowed := true }
def XonceTwinUptoSaid : Prop := xonceTwinUptoRow.holds Try.pinned (OpenSpec.upto xonceTwinSpec)

/-- 'shardlaw8.XonceRest', WHERE WHAT IT READS IS OF BULK AT MOST 1048576: true; the input reads as it did. -/
def xonceRestUptoRow : OpenClaim := { program := "ytjepmckofocdnaa", sum := "520d82a4a1083fc66ef09e3910c1b14c5d7e779835c35c7e43199057ef85ad53", func := "shard/shardlaw8.XonceRest", spec := "xonceRest", inPlace := ["slices.overlaps[shard/api.Frame]"], unfollowed := true, recurses := true, apart := false, narrowed := true }
def XonceRestUptoSaid : Prop := xonceRestUptoRow.holds Try.pinned (OpenSpec.upto xonceRestSpec)

/-- 'shardlaw8.XonceRefused', WHERE WHAT IT READS IS OF BULK AT MOST 1048576: true; the input reads as it did. -/
def xonceRefusedUptoRow : OpenClaim := { program := "ytjepmckofocdnaa", sum := "520d82a4a1083fc66ef09e3910c1b14c5d7e779835c35c7e43199057ef85ad53", func := "shard/shardlaw8.XonceRefused", spec := "xonceRefused", inPlace := ["slices.overlaps[shard/api.Frame]"], unfollowed := true, recurses := true, apart := false, narrowed := true }
def XonceRefusedUptoSaid : Prop := xonceRefusedUptoRow.holds Try.pinned (OpenSpec.upto xonceRefusedSpec)

end Rows
end Go.Proofs.Ytjepmckofocdnaa
