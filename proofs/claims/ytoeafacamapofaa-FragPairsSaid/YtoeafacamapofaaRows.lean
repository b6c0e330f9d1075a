/-
  No cell of these rows narrows 'for every input' (looked for: loops, veiled, ifaces, maps, wideKeys, modest, calm, conditions, laid).
  DERIVED. THE GIVEN ROWS OF THIS SEAT. 15 by the template 'for every input the law returns true; each argument reads behind the call as it read before'; 0 by the template 'total and deterministic' (their statements: YtoeafacamapofaaTotals.lean).
  GIVEN WITH THE SEED: the statements are not yours to turn. If you find one false, say at which input.
  Laid BY PROGRAM, IN A SANDBOX (cutbox-rows.mjs): the forced cells as the released guide's own fill.sh prints them over the translation 0da7c2493de4f6c9… (all of the seat's roots in one cut). By AI agents, Wed Nov 11 2026. No macro, syntax, notation, axiom, sorry.
-/
import Derived.Test.YtoeafacamapofaaChecked
import GoSem.Claim
import GoSem.ClaimJoined
import GoSem.ClaimMapViews
import Derived.JoinedTies
import Derived.KernelRfl
namespace Go.Proofs.Ytoeafacamapofaa
/- THE CELL 'sum', in the pinned program and in every row, IS THE sha256 OF THE DUMP (.gsa) THAT YtoeafacamapofaaProg.lean LOADS. Nothing in Lean hashes anything: it is a label: what it is worth is what the hold of that sum in a sandbox is worth. -/
noncomputable def Try.pinned : Pinned := { name := "ytoeafacamapofaa", sum := "0da7c2493de4f6c94bd69fe3a865cd8d02f03da7dfc0ec3b9008a1f5f0104c37", checked := Try.checked }
namespace Rows
def none {H : Type} : Left H := { results := [], args := [] }

/-- 'shardlaw5.LossyPicks': WHATEVER THE INPUT: true; the input reads as it did. -/
def lossyPicksSpec : ChangeSpec := { name := "lossyPicks", fn := fun _ => fun
  | [d1, d2] => { results := [.lit (.bool true)], args := [d1, d2] }
  | _ => none }
def lossyPicksRow : OpenClaim := { program := "ytoeafacamapofaa", sum := "0da7c2493de4f6c94bd69fe3a865cd8d02f03da7dfc0ec3b9008a1f5f0104c37", func := "shard/shardlaw5.LossyPicks", spec := "lossyPicks", unfollowed := true, recurses := true, plainKeys := false, apart := false }
def LossyPicksSaid : Prop := lossyPicksRow.holds Try.pinned (OpenSpec.ofChange lossyPicksSpec)

/-- ITS FALSE NEIGHBOUR: 'it returns false'. Refute it at one input. -/
def lossyPicksWrong : ChangeSpec := { name := "lossyPicks", fn := fun _ => fun
  | [d1, d2] => { results := [.lit (.bool false)], args := [d1, d2] }
  | _ => none }
def LossyPicksWrongFalsely : Prop := lossyPicksRow.holds Try.pinned (OpenSpec.ofChange lossyPicksWrong)

/-- 'shardlaw4.FragLooks': WHATEVER THE INPUT: true; the input reads as it did. -/
def fragLooksSpec : ChangeSpec := { name := "fragLooks", fn := fun _ => fun
  | [d] => { results := [.lit (.bool true)], args := [d] }
  | _ => none }
def fragLooksRow : OpenClaim := { program := "ytoeafacamapofaa", sum := "0da7c2493de4f6c94bd69fe3a865cd8d02f03da7dfc0ec3b9008a1f5f0104c37", func := "shard/shardlaw4.FragLooks", spec := "fragLooks", plainKeys := false, apart := false }
def FragLooksSaid : Prop := fragLooksRow.holds Try.pinned (OpenSpec.ofChange fragLooksSpec)

/-- ITS FALSE NEIGHBOUR: 'it returns false'. Refute it at one input. -/
def fragLooksWrong : ChangeSpec := { name := "fragLooks", fn := fun _ => fun
  | [d] => { results := [.lit (.bool false)], args := [d] }
  | _ => none }
def FragLooksWrongFalsely : Prop := fragLooksRow.holds Try.pinned (OpenSpec.ofChange fragLooksWrong)

/-- 'shardlaw4.FragSplits': WHATEVER THE INPUT: true; the input reads as it did. -/
def fragSplitsSpec : ChangeSpec := { name := "fragSplits", fn := fun _ => fun
  | [d1, d2, d3] => { results := [.lit (.bool true)], args := [d1, d2, d3] }
  | _ => none }
def fragSplitsRow : OpenClaim := { program := "ytoeafacamapofaa", sum := "0da7c2493de4f6c94bd69fe3a865cd8d02f03da7dfc0ec3b9008a1f5f0104c37", func := "shard/shardlaw4.FragSplits", spec := "fragSplits", plainKeys := false, apart := false }
def FragSplitsSaid : Prop := fragSplitsRow.holds Try.pinned (OpenSpec.ofChange fragSplitsSpec)

/-- ITS FALSE NEIGHBOUR: 'it returns false'. Refute it at one input. -/
def fragSplitsWrong : ChangeSpec := { name := "fragSplits", fn := fun _ => fun
  | [d1, d2, d3] => { results := [.lit (.bool false)], args := [d1, d2, d3] }
  | _ => none }
def FragSplitsWrongFalsely : Prop := fragSplitsRow.holds Try.pinned (OpenSpec.ofChange fragSplitsWrong)

/-- 'shardlaw8.XonceLoads': WHATEVER THE INPUT: true; the input reads as it did. -/
def xonceLoadsSpec : ChangeSpec := { name := "xonceLoads", fn := fun _ => fun
  | [d] => { results := [.lit (.bool true)], args := [d] }
  | _ => none }
def xonceLoadsRow : OpenClaim := { program := "ytoeafacamapofaa", sum := "0da7c2493de4f6c94bd69fe3a865cd8d02f03da7dfc0ec3b9008a1f5f0104c37", func := "shard/shardlaw8.XonceLoads", spec := "xonceLoads", unfollowed := true, recurses := true, plainKeys := false, apart := false }
def XonceLoadsSaid : Prop := xonceLoadsRow.holds Try.pinned (OpenSpec.ofChange xonceLoadsSpec)

/-- ITS FALSE NEIGHBOUR: 'it returns false'. Refute it at one input. -/
def xonceLoadsWrong : ChangeSpec := { name := "xonceLoads", fn := fun _ => fun
  | [d] => { results := [.lit (.bool false)], args := [d] }
  | _ => none }
def XonceLoadsWrongFalsely : Prop := xonceLoadsRow.holds Try.pinned (OpenSpec.ofChange xonceLoadsWrong)

/-- 'shardlaw4.FragSizes': WHATEVER THE INPUT: true; the input reads as it did. -/
def fragSizesSpec : ChangeSpec := { name := "fragSizes", fn := fun _ => fun
  | [d1, d2, d3] => { results := [.lit (.bool true)], args := [d1, d2, d3] }
  | _ => none }
def fragSizesRow : OpenClaim := { program := "ytoeafacamapofaa", sum := "0da7c2493de4f6c94bd69fe3a865cd8d02f03da7dfc0ec3b9008a1f5f0104c37", func := "shard/shardlaw4.FragSizes", spec := "fragSizes", plainKeys := false, apart := false }
def FragSizesSaid : Prop := fragSizesRow.holds Try.pinned (OpenSpec.ofChange fragSizesSpec)

/-- ITS FALSE NEIGHBOUR: 'it returns false'. Refute it at one input. -/
def fragSizesWrong : ChangeSpec := { name := "fragSizes", fn := fun _ => fun
  | [d1, d2, d3] => { results := [.lit (.bool false)], args := [d1, d2, d3] }
  | _ => none }
def FragSizesWrongFalsely : Prop := fragSizesRow.holds Try.pinned (OpenSpec.ofChange fragSizesWrong)

/-- 'shardlaw4.FragAgain': WHATEVER THE INPUT: true; the input reads as it did. -/
def fragAgainSpec : ChangeSpec := { name := "fragAgain", fn := fun _ => fun
  | [d1, d2, d3] => { results := [.lit (.bool true)], args := [d1, d2, d3] }
  | _ => none }
def fragAgainRow : OpenClaim := { program := "ytoeafacamapofaa", sum := "0da7c2493de4f6c94bd69fe3a865cd8d02f03da7dfc0ec3b9008a1f5f0104c37", func := "shard/shardlaw4.FragAgain", spec := "fragAgain", plainKeys := false, apart := false }
def FragAgainSaid : Prop := fragAgainRow.holds Try.pinned (OpenSpec.ofChange fragAgainSpec)

/-- ITS FALSE NEIGHBOUR: 'it returns false'. Refute it at one input. -/
def fragAgainWrong : ChangeSpec := { name := "fragAgain", fn := fun _ => fun
  | [d1, d2, d3] => { results := [.lit (.bool false)], args := [d1, d2, d3] }
  | _ => none }
def FragAgainWrongFalsely : Prop := fragAgainRow.holds Try.pinned (OpenSpec.ofChange fragAgainWrong)

/-- 'shardlaw4.FragJoins': WHATEVER THE INPUT: true; the input reads as it did. -/
def fragJoinsSpec : ChangeSpec := { name := "fragJoins", fn := fun _ => fun
  | [d1, d2, d3, d4] => { results := [.lit (.bool true)], args := [d1, d2, d3, d4] }
  | _ => none }
def fragJoinsRow : OpenClaim := { program := "ytoeafacamapofaa", sum := "0da7c2493de4f6c94bd69fe3a865cd8d02f03da7dfc0ec3b9008a1f5f0104c37", func := "shard/shardlaw4.FragJoins", spec := "fragJoins", unfollowed := true, recurses := true, plainKeys := false, apart := false }
def FragJoinsSaid : Prop := fragJoinsRow.holds Try.pinned (OpenSpec.ofChange fragJoinsSpec)

/-- ITS FALSE NEIGHBOUR: 'it returns false'. Refute it at one input. -/
def fragJoinsWrong : ChangeSpec := { name := "fragJoins", fn := fun _ => fun
  | [d1, d2, d3, d4] => { results := [.lit (.bool false)], args := [d1, d2, d3, d4] }
  | _ => none }
def FragJoinsWrongFalsely : Prop := fragJoinsRow.holds Try.pinned (OpenSpec.ofChange fragJoinsWrong)

/-- 'shardlaw4.FragPairs': WHATEVER THE INPUT: true; the input reads as it did. -/
def fragPairsSpec : ChangeSpec := { name := "fragPairs", fn := fun _ => fun
  | [d1, d2, d3] => { results := [.lit (.bool true)], args := [d1, d2, d3] }
  | _ => none }
def fragPairsRow : OpenClaim := { program := "ytoeafacamapofaa", sum := "0da7c2493de4f6c94bd69fe3a865cd8d02f03da7dfc0ec3b9008a1f5f0104c37", func := "shard/shardlaw4.FragPairs", spec := "fragPairs", unfollowed := true, recurses := true, plainKeys := false, apart := false }
def FragPairsSaid : Prop := fragPairsRow.holds Try.pinned (OpenSpec.ofChange fragPairsSpec)

/-- ITS FALSE NEIGHBOUR: 'it returns false'. Refute it at one input. -/
def fragPairsWrong : ChangeSpec := { name := "fragPairs", fn := fun _ => fun
  | [d1, d2, d3] => { results := [.lit (.bool false)], args := [d1, d2, d3] }
  | _ => none }
def FragPairsWrongFalsely : Prop := fragPairsRow.holds Try.pinned (OpenSpec.ofChange fragPairsWrong)

/-- 'shardlaw4.FragComesBack': WHATEVER THE INPUT: true; the input reads as it did. -/
def fragComesBackSpec : ChangeSpec := { name := "fragComesBack", fn := fun _ => fun
  | [d1, d2, d3, d4, d5] => { results := [.lit (.bool true)], args := [d1, d2, d3, d4, d5] }
  | _ => none }
def fragComesBackRow : OpenClaim := { program := "ytoeafacamapofaa", sum := "0da7c2493de4f6c94bd69fe3a865cd8d02f03da7dfc0ec3b9008a1f5f0104c37", func := "shard/shardlaw4.FragComesBack", spec := "fragComesBack", unfollowed := true, recurses := true, plainKeys := false, apart := false }
def FragComesBackSaid : Prop := fragComesBackRow.holds Try.pinned (OpenSpec.ofChange fragComesBackSpec)

/-- ITS FALSE NEIGHBOUR: 'it returns false'. Refute it at one input. -/
def fragComesBackWrong : ChangeSpec := { name := "fragComesBack", fn := fun _ => fun
  | [d1, d2, d3, d4, d5] => { results := [.lit (.bool false)], args := [d1, d2, d3, d4, d5] }
  | _ => none }
def FragComesBackWrongFalsely : Prop := fragComesBackRow.holds Try.pinned (OpenSpec.ofChange fragComesBackWrong)

/-- 'shardlaw4.FragApart': WHATEVER THE INPUT: true; the input reads as it did. -/
def fragApartSpec : ChangeSpec := { name := "fragApart", fn := fun _ => fun
  | [d1, d2, d3, d4, d5] => { results := [.lit (.bool true)], args := [d1, d2, d3, d4, d5] }
  | _ => none }
def fragApartRow : OpenClaim := { program := "ytoeafacamapofaa", sum := "0da7c2493de4f6c94bd69fe3a865cd8d02f03da7dfc0ec3b9008a1f5f0104c37", func := "shard/shardlaw4.FragApart", spec := "fragApart", unfollowed := true, recurses := true, plainKeys := false, apart := false }
def FragApartSaid : Prop := fragApartRow.holds Try.pinned (OpenSpec.ofChange fragApartSpec)

/-- ITS FALSE NEIGHBOUR: 'it returns false'. Refute it at one input. -/
def fragApartWrong : ChangeSpec := { name := "fragApart", fn := fun _ => fun
  | [d1, d2, d3, d4, d5] => { results := [.lit (.bool false)], args := [d1, d2, d3, d4, d5] }
  | _ => none }
def FragApartWrongFalsely : Prop := fragApartRow.holds Try.pinned (OpenSpec.ofChange fragApartWrong)

/-- 'shardlaw4.FragNoneInvented': WHATEVER THE INPUT: true; the input reads as it did. -/
def fragNoneInventedSpec : ChangeSpec := { name := "fragNoneInvented", fn := fun _ => fun
  | [d1, d2, d3] => { results := [.lit (.bool true)], args := [d1, d2, d3] }
  | _ => none }
def fragNoneInventedRow : OpenClaim := { program := "ytoeafacamapofaa", sum := "0da7c2493de4f6c94bd69fe3a865cd8d02f03da7dfc0ec3b9008a1f5f0104c37", func := "shard/shardlaw4.FragNoneInvented", spec := "fragNoneInvented", unfollowed := true, recurses := true, plainKeys := false, apart := false }
def FragNoneInventedSaid : Prop := fragNoneInventedRow.holds Try.pinned (OpenSpec.ofChange fragNoneInventedSpec)

/-- ITS FALSE NEIGHBOUR: 'it returns false'. Refute it at one input. -/
def fragNoneInventedWrong : ChangeSpec := { name := "fragNoneInvented", fn := fun _ => fun
  | [d1, d2, d3] => { results := [.lit (.bool false)], args := [d1, d2, d3] }
  | _ => none }
def FragNoneInventedWrongFalsely : Prop := fragNoneInventedRow.holds Try.pinned (OpenSpec.ofChange fragNoneInventedWrong)

/-- 'shardlaw4.FragOldest': WHATEVER THE INPUT: true; the input reads as it did. -/
def fragOldestSpec : ChangeSpec := { name := "fragOldest", fn := fun _ => fun
  | [d1, d2, d3] => { results := [.lit (.bool true)], args := [d1, d2, d3] }
  | _ => none }
def fragOldestRow : OpenClaim := { program := "ytoeafacamapofaa", sum := "0da7c2493de4f6c94bd69fe3a865cd8d02f03da7dfc0ec3b9008a1f5f0104c37", func := "shard/shardlaw4.FragOldest", spec := "fragOldest", unfollowed := true, recurses := true, plainKeys := false, apart := false }
def FragOldestSaid : Prop := fragOldestRow.holds Try.pinned (OpenSpec.ofChange fragOldestSpec)

/-- ITS FALSE NEIGHBOUR: 'it returns false'. Refute it at one input. -/
def fragOldestWrong : ChangeSpec := { name := "fragOldest", fn := fun _ => fun
  | [d1, d2, d3] => { results := [.lit (.bool false)], args := [d1, d2, d3] }
  | _ => none }
def FragOldestWrongFalsely : Prop := fragOldestRow.holds Try.pinned (OpenSpec.ofChange fragOldestWrong)

/-- 'shardlaw4.FragAges': WHATEVER THE INPUT: true; the input reads as it did. -/
def fragAgesSpec : ChangeSpec := { name := "fragAges", fn := fun _ => fun
  | [d1, d2, d3] => { results := [.lit (.bool true)], args := [d1, d2, d3] }
  | _ => none }
def fragAgesRow : OpenClaim := { program := "ytoeafacamapofaa", sum := "0da7c2493de4f6c94bd69fe3a865cd8d02f03da7dfc0ec3b9008a1f5f0104c37", func := "shard/shardlaw4.FragAges", spec := "fragAges", unfollowed := true, recurses := true, plainKeys := false, apart := false }
def FragAgesSaid : Prop := fragAgesRow.holds Try.pinned (OpenSpec.ofChange fragAgesSpec)

/-- ITS FALSE NEIGHBOUR: 'it returns false'. Refute it at one input. -/
def fragAgesWrong : ChangeSpec := { name := "fragAges", fn := fun _ => fun
  | [d1, d2, d3] => { results := [.lit (.bool false)], args := [d1, d2, d3] }
  | _ => none }
def FragAgesWrongFalsely : Prop := fragAgesRow.holds Try.pinned (OpenSpec.ofChange fragAgesWrong)

/-- 'shardlaw4.FragOneByte': WHATEVER THE INPUT: true; the input reads as it did. -/
def fragOneByteSpec : ChangeSpec := { name := "fragOneByte", fn := fun _ => fun
  | [d1, d2, d3, d4, d5, d6] => { results := [.lit (.bool true)], args := [d1, d2, d3, d4, d5, d6] }
  | _ => none }
def fragOneByteRow : OpenClaim := { program := "ytoeafacamapofaa", sum := "0da7c2493de4f6c94bd69fe3a865cd8d02f03da7dfc0ec3b9008a1f5f0104c37", func := "shard/shardlaw4.FragOneByte", spec := "fragOneByte", unfollowed := true, recurses := true, plainKeys := false, apart := false }
def FragOneByteSaid : Prop := fragOneByteRow.holds Try.pinned (OpenSpec.ofChange fragOneByteSpec)

/-- ITS FALSE NEIGHBOUR: 'it returns false'. Refute it at one input. -/
def fragOneByteWrong : ChangeSpec := { name := "fragOneByte", fn := fun _ => fun
  | [d1, d2, d3, d4, d5, d6] => { results := [.lit (.bool false)], args := [d1, d2, d3, d4, d5, d6] }
  | _ => none }
def FragOneByteWrongFalsely : Prop := fragOneByteRow.holds Try.pinned (OpenSpec.ofChange fragOneByteWrong)

/-- 'shardlaw4.FragAnswers': WHATEVER THE INPUT: true; the input reads as it did. -/
def fragAnswersSpec : ChangeSpec := { name := "fragAnswers", fn := fun _ => fun
  | [d1, d2, d3] => { results := [.lit (.bool true)], args := [d1, d2, d3] }
  | _ => none }
def fragAnswersRow : OpenClaim := { program := "ytoeafacamapofaa", sum := "0da7c2493de4f6c94bd69fe3a865cd8d02f03da7dfc0ec3b9008a1f5f0104c37", func := "shard/shardlaw4.FragAnswers", spec := "fragAnswers", unfollowed := true, recurses := true, plainKeys := false, apart := false }
def FragAnswersSaid : Prop := fragAnswersRow.holds Try.pinned (OpenSpec.ofChange fragAnswersSpec)

/-- ITS FALSE NEIGHBOUR: 'it returns false'. Refute it at one input. -/
def fragAnswersWrong : ChangeSpec := { name := "fragAnswers", fn := fun _ => fun
  | [d1, d2, d3] => { results := [.lit (.bool false)], args := [d1, d2, d3] }
  | _ => none }
def FragAnswersWrongFalsely : Prop := fragAnswersRow.holds Try.pinned (OpenSpec.ofChange fragAnswersWrong)

/- THE SECOND FORM. 'bulk': how many values and letters a reading holds, each counted each time it is reached (what is shared counts as often as it is met; a slice's spare places count too). A statement '..UptoSaid' is the law's where the arguments, and the package variables that the reading takes, are together of bulk at most 1048576: NARROWER than '..Said'. Prove '..Said' where nothing that the law and all that it calls make is longer than what came in: it says more and counts as full. Else prove '..UptoSaid'. A law counts once. -/
mutual
def uptoBulk {H : Type} : DataW H → Nat
  | .lit (.string bytes) => bytes.length + 1
  | .lit _ => 1
  | .nil => 1
  | .ptr d => uptoBulk d + 1
  | .slice elems spare => uptoBulkAll elems + uptoBulkAll spare + 1
  | .agg parts => uptoBulkAll parts + 1
  | .iface _ d => uptoBulk d + 1
  | .map entries => uptoBulkEntries entries + 1
  | .held _ => 1
def uptoBulkAll {H : Type} : List (DataW H) → Nat
  | [] => 0
  | d :: r => uptoBulk d + uptoBulkAll r
def uptoBulkEntries {H : Type} : List (Lit × DataW H) → Nat
  | [] => 0
  | x :: r => uptoBulkEntry x + uptoBulkEntries r
def uptoBulkEntry {H : Type} : Lit × DataW H → Nat
  | (.string bytes, d) => bytes.length + uptoBulk d + 1
  | (_, d) => uptoBulk d + 1
 end
def uptoSmall : (H : Type) → List (DataW H) → Bool := fun _ ds => decide (uptoBulkAll ds ≤ 1048576)
def OpenSpec.upto (s : _root_.Go.ChangeSpec) : _root_.Go.OpenSpec := { _root_.Go.OpenSpec.ofChange s with cond := some uptoSmall }

/-- 'shardlaw5.LossyPicks', WHERE WHAT IT READS IS OF BULK AT MOST 1048576: true; the input reads as it did. -/
def lossyPicksUptoRow : OpenClaim := { program := "ytoeafacamapofaa", sum := "0da7c2493de4f6c94bd69fe3a865cd8d02f03da7dfc0ec3b9008a1f5f0104c37", func := "shard/shardlaw5.LossyPicks", spec := "lossyPicks", unfollowed := true, recurses := true, plainKeys := false, apart := false, narrowed := true }
def LossyPicksUptoSaid : Prop := lossyPicksUptoRow.holds Try.pinned (OpenSpec.upto lossyPicksSpec)

/-- 'shardlaw4.FragLooks', WHERE WHAT IT READS IS OF BULK AT MOST 1048576: true; the input reads as it did. -/
def fragLooksUptoRow : OpenClaim := { program := "ytoeafacamapofaa", sum := "0da7c2493de4f6c94bd69fe3a865cd8d02f03da7dfc0ec3b9008a1f5f0104c37", func := "shard/shardlaw4.FragLooks", spec := "fragLooks", plainKeys := false, apart := false, narrowed := true }
def FragLooksUptoSaid : Prop := fragLooksUptoRow.holds Try.pinned (OpenSpec.upto fragLooksSpec)

/-- 'shardlaw4.FragSplits', WHERE WHAT IT READS IS OF BULK AT MOST 1048576: true; the input reads as it did. -/
def fragSplitsUptoRow : OpenClaim := { program := "ytoeafacamapofaa", sum := "0da7c2493de4f6c94bd69fe3a865cd8d02f03da7dfc0ec3b9008a1f5f0104c37", func := "shard/shardlaw4.FragSplits", spec := "fragSplits", plainKeys := false, apart := false, narrowed := true }
def FragSplitsUptoSaid : Prop := fragSplitsUptoRow.holds Try.pinned (OpenSpec.upto fragSplitsSpec)

/-- 'shardlaw8.XonceLoads', WHERE WHAT IT READS IS OF BULK AT MOST 1048576: true; the input reads as it did. -/
def xonceLoadsUptoRow : OpenClaim := { program := "ytoeafacamapofaa", sum := "0da7c2493de4f6c94bd69fe3a865cd8d02f03da7dfc0ec3b9008a1f5f0104c37", func := "shard/shardlaw8.XonceLoads", spec := "xonceLoads", unfollowed := true, recurses := true, plainKeys := false, apart := false, narrowed := true }
def XonceLoadsUptoSaid : Prop := xonceLoadsUptoRow.holds Try.pinned (OpenSpec.upto xonceLoadsSpec)

/-- 'shardlaw4.FragSizes', WHERE WHAT IT READS IS OF BULK AT MOST 1048576: true; the input reads as it did. -/
def fragSizesUptoRow : OpenClaim := { program := "ytoeafacamapofaa", sum := "0da7c2493de4f6c94bd69fe3a865cd8d02f03da7dfc0ec3b9008a1f5f0104c37", func := "shard/shardlaw4.FragSizes", spec := "fragSizes", plainKeys := false, apart := false, narrowed := true }
def FragSizesUptoSaid : Prop := fragSizesUptoRow.holds Try.pinned (OpenSpec.upto fragSizesSpec)

/-- 'shardlaw4.FragAgain', WHERE WHAT IT READS IS OF BULK AT MOST 1048576: true; the input reads as it did. -/
def fragAgainUptoRow : OpenClaim := { program := "ytoeafacamapofaa", sum := "0da7c2493de4f6c94bd69fe3a865cd8d02f03da7dfc0ec3b9008a1f5f0104c37", func := "shard/shardlaw4.FragAgain", spec := "fragAgain", plainKeys := false, apart := false, narrowed := true }
def FragAgainUptoSaid : Prop := fragAgainUptoRow.holds Try.pinned (OpenSpec.upto fragAgainSpec)

/-- 'shardlaw4.FragJoins', WHERE WHAT IT READS IS OF BULK AT MOST 1048576: true; the input reads as it did. -/
def fragJoinsUptoRow : OpenClaim := { program := "ytoeafacamapofaa", sum := "0da7c2493de4f6c94bd69fe3a865cd8d02f03da7dfc0ec3b9008a1f5f0104c37", func := "shard/shardlaw4.FragJoins", spec := "fragJoins", unfollowed := true, recurses := true, plainKeys := false, apart := false, narrowed := true }
def FragJoinsUptoSaid : Prop := fragJoinsUptoRow.holds Try.pinned (OpenSpec.upto fragJoinsSpec)

/-- 'shardlaw4.FragPairs', WHERE WHAT IT READS IS OF BULK AT MOST 1048576: true; the input reads as it did. -/
def fragPairsUptoRow : OpenClaim := { program := "ytoeafacamapofaa", sum := "0da7c2493de4f6c94bd69fe3a865cd8d02f03da7dfc0ec3b9008a1f5f0104c37", func := "shard/shardlaw4.FragPairs", spec := "fragPairs", unfollowed := true, recurses := true, plainKeys := false, apart := false, narrowed := true }
def FragPairsUptoSaid : Prop := fragPairsUptoRow.holds Try.pinned (OpenSpec.upto fragPairsSpec)

/-- 'shardlaw4.FragComesBack', WHERE WHAT IT READS IS OF BULK AT MOST 1048576: true; the input reads as it did. -/
def fragComesBackUptoRow : OpenClaim := { program := "ytoeafacamapofaa", sum := "0da7c2493de4f6c94bd69fe3a865cd8d02f03da7dfc0ec3b9008a1f5f0104c37", func := "shard/shardlaw4.FragComesBack", spec := "fragComesBack", unfollowed := true, recurses := true, plainKeys := false, apart := false, narrowed := true }
def FragComesBackUptoSaid : Prop := fragComesBackUptoRow.holds Try.pinned (OpenSpec.upto fragComesBackSpec)

/-- 'shardlaw4.FragApart', WHERE WHAT IT READS IS OF BULK AT MOST 1048576: true; the input reads as it did. -/
def fragApartUptoRow : OpenClaim := { program := "ytoeafacamapofaa", sum := "0da7c2493de4f6c94bd69fe3a865cd8d02f03da7dfc0ec3b9008a1f5f0104c37", func := "shard/shardlaw4.FragApart", spec := "fragApart", unfollowed := true, recurses := true, plainKeys := false, apart := false, narrowed := true }
def FragApartUptoSaid : Prop := fragApartUptoRow.holds Try.pinned (OpenSpec.upto fragApartSpec)

/-- 'shardlaw4.FragNoneInvented', WHERE WHAT IT READS IS OF BULK AT MOST 1048576: true; the input reads as it did. -/
def fragNoneInventedUptoRow : OpenClaim := { program := "ytoeafacamapofaa", sum := "0da7c2493de4f6c94bd69fe3a865cd8d02f03da7dfc0ec3b9008a1f5f0104c37", func := "shard/shardlaw4.FragNoneInvented", spec := "fragNoneInvented", unfollowed := true, recurses := true, plainKeys := false, apart := false, narrowed := true }
def FragNoneInventedUptoSaid : Prop := fragNoneInventedUptoRow.holds Try.pinned (OpenSpec.upto fragNoneInventedSpec)

/-- 'shardlaw4.FragOldest', WHERE WHAT IT READS IS OF BULK AT MOST 1048576: true; the input reads as it did. -/
def fragOldestUptoRow : OpenClaim := { program := "ytoeafacamapofaa", sum := "0da7c2493de4f6c94bd69fe3a865cd8d02f03da7dfc0ec3b9008a1f5f0104c37", func := "shard/shardlaw4.FragOldest", spec := "fragOldest", unfollowed := true, recurses := true, plainKeys := false, apart := false, narrowed := true }
def FragOldestUptoSaid : Prop := fragOldestUptoRow.holds Try.pinned (OpenSpec.upto fragOldestSpec)

/-- 'shardlaw4.FragAges', WHERE WHAT IT READS IS OF BULK AT MOST 1048576: true; the input reads as it did. -/
def fragAgesUptoRow : OpenClaim := { program := "ytoeafacamapofaa", sum := "0da7c2493de4f6c94bd69fe3a865cd8d02f03da7dfc0ec3b9008a1f5f0104c37", func := "shard/shardlaw4.FragAges", spec := "fragAges", unfollowed := true, recurses := true, plainKeys := false, apart := false, narrowed := true }
def FragAgesUptoSaid : Prop := fragAgesUptoRow.holds Try.pinned (OpenSpec.upto fragAgesSpec)

/-- 'shardlaw4.FragOneByte', WHERE WHAT IT READS IS OF BULK AT MOST 1048576: true; the input reads as it did. -/
def fragOneByteUptoRow : OpenClaim := { program := "ytoeafacamapofaa", sum := "0da7c2493de4f6c94bd69fe3a865cd8d02f03da7dfc0ec3b9008a1f5f0104c37", func := "shard/shardlaw4.FragOneByte", spec := "fragOneByte", unfollowed := true, recurses := true, plainKeys := false, apart := false, narrowed := true }
def FragOneByteUptoSaid : Prop := fragOneByteUptoRow.holds Try.pinned (OpenSpec.upto fragOneByteSpec)

/-- 'shardlaw4.FragAnswers', WHERE WHAT IT READS IS OF BULK AT MOST 1048576: true; the input reads as it did. -/
def fragAnswersUptoRow : OpenClaim := { program := "ytoeafacamapofaa", sum := "0da7c2493de4f6c94bd69fe3a865cd8d02f03da7dfc0ec3b9008a1f5f0104c37", func := "shard/shardlaw4.FragAnswers", spec := "fragAnswers", unfollowed := true, recurses := true, plainKeys := false, apart := false, narrowed := true }
def FragAnswersUptoSaid : Prop := fragAnswersUptoRow.holds Try.pinned (OpenSpec.upto fragAnswersSpec)

end Rows
end Go.Proofs.Ytoeafacamapofaa
