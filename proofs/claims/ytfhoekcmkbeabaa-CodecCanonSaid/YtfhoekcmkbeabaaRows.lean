/-
  No cell of these rows narrows 'for every input' (looked for: loops, veiled, ifaces, maps, wideKeys, modest, calm, conditions, laid).
  DERIVED. THE GIVEN ROWS OF THIS SEAT. 12 by the template 'for every input the law returns true; each argument reads behind the call as it read before'; 0 by the template 'total and deterministic' (their statements: YtfhoekcmkbeabaaTotals.lean).
  GIVEN WITH THE SEED: the statements are not yours to turn. If you find one false, say at which input.
  Laid BY PROGRAM, IN A SANDBOX (cutbox-rows.mjs): the forced cells as the released guide's own fill.sh prints them over the translation 96d71842b9d3dc0a… (all of the seat's roots in one cut). By AI agents, Wed Nov 11 2026. No macro, syntax, notation, axiom, sorry.
-/
import Derived.Test.YtfhoekcmkbeabaaChecked
import GoSem.Claim
import GoSem.ClaimJoined
import GoSem.ClaimMapViews
import Derived.JoinedTies
import Derived.KernelRfl
namespace Go.Proofs.Ytfhoekcmkbeabaa
/- THE CELL 'sum', in the pinned program and in every row, IS THE sha256 OF THE DUMP (.gsa) THAT YtfhoekcmkbeabaaProg.lean LOADS. Nothing in Lean hashes anything: it is a label: what it is worth is what the hold of that sum in a sandbox is worth. -/
noncomputable def Try.pinned : Pinned := { name := "ytfhoekcmkbeabaa", sum := "96d71842b9d3dc0a91ef91457d9d282258a44a465482c64e23b5ea5006ea13d5", checked := Try.checked }
namespace Rows
def none {H : Type} : Left H := { results := [], args := [] }

/-- 'shardlaw2.CodecBurst': WHATEVER THE INPUT: true; the input reads as it did. -/
def codecBurstSpec : ChangeSpec := { name := "codecBurst", fn := fun _ => fun
  | [d1, d2, d3] => { results := [.lit (.bool true)], args := [d1, d2, d3] }
  | _ => none }
def codecBurstRow : OpenClaim := { program := "ytfhoekcmkbeabaa", sum := "96d71842b9d3dc0a91ef91457d9d282258a44a465482c64e23b5ea5006ea13d5", func := "shard/shardlaw2.CodecBurst", spec := "codecBurst", apart := false }
def CodecBurstSaid : Prop := codecBurstRow.holds Try.pinned (OpenSpec.ofChange codecBurstSpec)

/-- ITS FALSE NEIGHBOUR: 'it returns false'. Refute it at one input. -/
def codecBurstWrong : ChangeSpec := { name := "codecBurst", fn := fun _ => fun
  | [d1, d2, d3] => { results := [.lit (.bool false)], args := [d1, d2, d3] }
  | _ => none }
def CodecBurstWrongFalsely : Prop := codecBurstRow.holds Try.pinned (OpenSpec.ofChange codecBurstWrong)

/-- 'shardlaw2.CodecZeros': WHATEVER THE INPUT: true; the input reads as it did. -/
def codecZerosSpec : ChangeSpec := { name := "codecZeros", fn := fun _ => fun
  | [d1, d2, d3, d4] => { results := [.lit (.bool true)], args := [d1, d2, d3, d4] }
  | _ => none }
def codecZerosRow : OpenClaim := { program := "ytfhoekcmkbeabaa", sum := "96d71842b9d3dc0a91ef91457d9d282258a44a465482c64e23b5ea5006ea13d5", func := "shard/shardlaw2.CodecZeros", spec := "codecZeros", apart := false }
def CodecZerosSaid : Prop := codecZerosRow.holds Try.pinned (OpenSpec.ofChange codecZerosSpec)

/-- ITS FALSE NEIGHBOUR: 'it returns false'. Refute it at one input. -/
def codecZerosWrong : ChangeSpec := { name := "codecZeros", fn := fun _ => fun
  | [d1, d2, d3, d4] => { results := [.lit (.bool false)], args := [d1, d2, d3, d4] }
  | _ => none }
def CodecZerosWrongFalsely : Prop := codecZerosRow.holds Try.pinned (OpenSpec.ofChange codecZerosWrong)

/-- 'shardlaw2.CodecSums': WHATEVER THE INPUT: true; the input reads as it did. -/
def codecSumsSpec : ChangeSpec := { name := "codecSums", fn := fun _ => fun
  | [d1, d2, d3, d4, d5] => { results := [.lit (.bool true)], args := [d1, d2, d3, d4, d5] }
  | _ => none }
def codecSumsRow : OpenClaim := { program := "ytfhoekcmkbeabaa", sum := "96d71842b9d3dc0a91ef91457d9d282258a44a465482c64e23b5ea5006ea13d5", func := "shard/shardlaw2.CodecSums", spec := "codecSums", recurses := true, apart := false }
def CodecSumsSaid : Prop := codecSumsRow.holds Try.pinned (OpenSpec.ofChange codecSumsSpec)

/-- ITS FALSE NEIGHBOUR: 'it returns false'. Refute it at one input. -/
def codecSumsWrong : ChangeSpec := { name := "codecSums", fn := fun _ => fun
  | [d1, d2, d3, d4, d5] => { results := [.lit (.bool false)], args := [d1, d2, d3, d4, d5] }
  | _ => none }
def CodecSumsWrongFalsely : Prop := codecSumsRow.holds Try.pinned (OpenSpec.ofChange codecSumsWrong)

/-- 'shardlaw2.CodecJoin': WHATEVER THE INPUT: true; the input reads as it did. -/
def codecJoinSpec : ChangeSpec := { name := "codecJoin", fn := fun _ => fun
  | [d1, d2, d3] => { results := [.lit (.bool true)], args := [d1, d2, d3] }
  | _ => none }
def codecJoinRow : OpenClaim := { program := "ytfhoekcmkbeabaa", sum := "96d71842b9d3dc0a91ef91457d9d282258a44a465482c64e23b5ea5006ea13d5", func := "shard/shardlaw2.CodecJoin", spec := "codecJoin", apart := false }
def CodecJoinSaid : Prop := codecJoinRow.holds Try.pinned (OpenSpec.ofChange codecJoinSpec)

/-- ITS FALSE NEIGHBOUR: 'it returns false'. Refute it at one input. -/
def codecJoinWrong : ChangeSpec := { name := "codecJoin", fn := fun _ => fun
  | [d1, d2, d3] => { results := [.lit (.bool false)], args := [d1, d2, d3] }
  | _ => none }
def CodecJoinWrongFalsely : Prop := codecJoinRow.holds Try.pinned (OpenSpec.ofChange codecJoinWrong)

/-- 'shardlaw2.CodecWrites': WHATEVER THE INPUT: true; the input reads as it did. -/
def codecWritesSpec : ChangeSpec := { name := "codecWrites", fn := fun _ => fun
  | [d1, d2] => { results := [.lit (.bool true)], args := [d1, d2] }
  | _ => none }
def codecWritesRow : OpenClaim := { program := "ytfhoekcmkbeabaa", sum := "96d71842b9d3dc0a91ef91457d9d282258a44a465482c64e23b5ea5006ea13d5", func := "shard/shardlaw2.CodecWrites", spec := "codecWrites", apart := false }
def CodecWritesSaid : Prop := codecWritesRow.holds Try.pinned (OpenSpec.ofChange codecWritesSpec)

/-- ITS FALSE NEIGHBOUR: 'it returns false'. Refute it at one input. -/
def codecWritesWrong : ChangeSpec := { name := "codecWrites", fn := fun _ => fun
  | [d1, d2] => { results := [.lit (.bool false)], args := [d1, d2] }
  | _ => none }
def CodecWritesWrongFalsely : Prop := codecWritesRow.holds Try.pinned (OpenSpec.ofChange codecWritesWrong)

/-- 'shardlaw2.CodecFrames': WHATEVER THE INPUT: true; the input reads as it did. -/
def codecFramesSpec : ChangeSpec := { name := "codecFrames", fn := fun _ => fun
  | [d1, d2] => { results := [.lit (.bool true)], args := [d1, d2] }
  | _ => none }
def codecFramesRow : OpenClaim := { program := "ytfhoekcmkbeabaa", sum := "96d71842b9d3dc0a91ef91457d9d282258a44a465482c64e23b5ea5006ea13d5", func := "shard/shardlaw2.CodecFrames", spec := "codecFrames", apart := false }
def CodecFramesSaid : Prop := codecFramesRow.holds Try.pinned (OpenSpec.ofChange codecFramesSpec)

/-- ITS FALSE NEIGHBOUR: 'it returns false'. Refute it at one input. -/
def codecFramesWrong : ChangeSpec := { name := "codecFrames", fn := fun _ => fun
  | [d1, d2] => { results := [.lit (.bool false)], args := [d1, d2] }
  | _ => none }
def CodecFramesWrongFalsely : Prop := codecFramesRow.holds Try.pinned (OpenSpec.ofChange codecFramesWrong)

/-- 'shardlaw2.CodecTorn': WHATEVER THE INPUT: true; the input reads as it did. -/
def codecTornSpec : ChangeSpec := { name := "codecTorn", fn := fun _ => fun
  | [d1, d2] => { results := [.lit (.bool true)], args := [d1, d2] }
  | _ => none }
def codecTornRow : OpenClaim := { program := "ytfhoekcmkbeabaa", sum := "96d71842b9d3dc0a91ef91457d9d282258a44a465482c64e23b5ea5006ea13d5", func := "shard/shardlaw2.CodecTorn", spec := "codecTorn", apart := false }
def CodecTornSaid : Prop := codecTornRow.holds Try.pinned (OpenSpec.ofChange codecTornSpec)

/-- ITS FALSE NEIGHBOUR: 'it returns false'. Refute it at one input. -/
def codecTornWrong : ChangeSpec := { name := "codecTorn", fn := fun _ => fun
  | [d1, d2] => { results := [.lit (.bool false)], args := [d1, d2] }
  | _ => none }
def CodecTornWrongFalsely : Prop := codecTornRow.holds Try.pinned (OpenSpec.ofChange codecTornWrong)

/-- 'shardlaw2.CodecSpoilt': WHATEVER THE INPUT: true; the input reads as it did. -/
def codecSpoiltSpec : ChangeSpec := { name := "codecSpoilt", fn := fun _ => fun
  | [d1, d2, d3, d4, d5] => { results := [.lit (.bool true)], args := [d1, d2, d3, d4, d5] }
  | _ => none }
def codecSpoiltRow : OpenClaim := { program := "ytfhoekcmkbeabaa", sum := "96d71842b9d3dc0a91ef91457d9d282258a44a465482c64e23b5ea5006ea13d5", func := "shard/shardlaw2.CodecSpoilt", spec := "codecSpoilt", apart := false }
def CodecSpoiltSaid : Prop := codecSpoiltRow.holds Try.pinned (OpenSpec.ofChange codecSpoiltSpec)

/-- ITS FALSE NEIGHBOUR: 'it returns false'. Refute it at one input. -/
def codecSpoiltWrong : ChangeSpec := { name := "codecSpoilt", fn := fun _ => fun
  | [d1, d2, d3, d4, d5] => { results := [.lit (.bool false)], args := [d1, d2, d3, d4, d5] }
  | _ => none }
def CodecSpoiltWrongFalsely : Prop := codecSpoiltRow.holds Try.pinned (OpenSpec.ofChange codecSpoiltWrong)

/-- 'shardlaw2.CodecReads': WHATEVER THE INPUT: true; the input reads as it did. -/
def codecReadsSpec : ChangeSpec := { name := "codecReads", fn := fun _ => fun
  | [d1, d2, d3] => { results := [.lit (.bool true)], args := [d1, d2, d3] }
  | _ => none }
def codecReadsRow : OpenClaim := { program := "ytfhoekcmkbeabaa", sum := "96d71842b9d3dc0a91ef91457d9d282258a44a465482c64e23b5ea5006ea13d5", func := "shard/shardlaw2.CodecReads", spec := "codecReads", apart := false }
def CodecReadsSaid : Prop := codecReadsRow.holds Try.pinned (OpenSpec.ofChange codecReadsSpec)

/-- ITS FALSE NEIGHBOUR: 'it returns false'. Refute it at one input. -/
def codecReadsWrong : ChangeSpec := { name := "codecReads", fn := fun _ => fun
  | [d1, d2, d3] => { results := [.lit (.bool false)], args := [d1, d2, d3] }
  | _ => none }
def CodecReadsWrongFalsely : Prop := codecReadsRow.holds Try.pinned (OpenSpec.ofChange codecReadsWrong)

/-- 'shardlaw2.CodecCanon': WHATEVER THE INPUT: true; the input reads as it did. -/
def codecCanonSpec : ChangeSpec := { name := "codecCanon", fn := fun _ => fun
  | [d1, d2] => { results := [.lit (.bool true)], args := [d1, d2] }
  | _ => none }
def codecCanonRow : OpenClaim := { program := "ytfhoekcmkbeabaa", sum := "96d71842b9d3dc0a91ef91457d9d282258a44a465482c64e23b5ea5006ea13d5", func := "shard/shardlaw2.CodecCanon", spec := "codecCanon", apart := false }
def CodecCanonSaid : Prop := codecCanonRow.holds Try.pinned (OpenSpec.ofChange codecCanonSpec)

/-- ITS FALSE NEIGHBOUR: 'it returns false'. Refute it at one input. -/
def codecCanonWrong : ChangeSpec := { name := "codecCanon", fn := fun _ => fun
  | [d1, d2] => { results := [.lit (.bool false)], args := [d1, d2] }
  | _ => none }
def CodecCanonWrongFalsely : Prop := codecCanonRow.holds Try.pinned (OpenSpec.ofChange codecCanonWrong)

/-- 'shardlaw2.CodecRound': WHATEVER THE INPUT: true; the input reads as it did. -/
def codecRoundSpec : ChangeSpec := { name := "codecRound", fn := fun _ => fun
  | [d] => { results := [.lit (.bool true)], args := [d] }
  | _ => none }
def codecRoundRow : OpenClaim := { program := "ytfhoekcmkbeabaa", sum := "96d71842b9d3dc0a91ef91457d9d282258a44a465482c64e23b5ea5006ea13d5", func := "shard/shardlaw2.CodecRound", spec := "codecRound", apart := false }
def CodecRoundSaid : Prop := codecRoundRow.holds Try.pinned (OpenSpec.ofChange codecRoundSpec)

/-- ITS FALSE NEIGHBOUR: 'it returns false'. Refute it at one input. -/
def codecRoundWrong : ChangeSpec := { name := "codecRound", fn := fun _ => fun
  | [d] => { results := [.lit (.bool false)], args := [d] }
  | _ => none }
def CodecRoundWrongFalsely : Prop := codecRoundRow.holds Try.pinned (OpenSpec.ofChange codecRoundWrong)

/-- 'shardlaw2.CodecFresh': WHATEVER THE INPUT: true; the input reads as it did. -/
def codecFreshSpec : ChangeSpec := { name := "codecFresh", fn := fun _ => fun
  | [d1, d2] => { results := [.lit (.bool true)], args := [d1, d2] }
  | _ => none }
def codecFreshRow : OpenClaim := { program := "ytfhoekcmkbeabaa", sum := "96d71842b9d3dc0a91ef91457d9d282258a44a465482c64e23b5ea5006ea13d5", func := "shard/shardlaw2.CodecFresh", spec := "codecFresh", apart := false }
def CodecFreshSaid : Prop := codecFreshRow.holds Try.pinned (OpenSpec.ofChange codecFreshSpec)

/-- ITS FALSE NEIGHBOUR: 'it returns false'. Refute it at one input. -/
def codecFreshWrong : ChangeSpec := { name := "codecFresh", fn := fun _ => fun
  | [d1, d2] => { results := [.lit (.bool false)], args := [d1, d2] }
  | _ => none }
def CodecFreshWrongFalsely : Prop := codecFreshRow.holds Try.pinned (OpenSpec.ofChange codecFreshWrong)

/- THE SECOND FORM. 'bulk': how many values and letters a reading holds, each counted each time it is reached (what is shared counts as often as it is met; a slice's spare places count too). A statement '..UptoSaid' is the law's where the arguments, and the package variables that the reading takes, are together of bulk at most 1048576: NARROWER than '..Said'. Prove '..Said' where nothing that the law and all that it calls make is longer than what came in: it says more and counts as full. Else prove '..UptoSaid'. A law counts once. -/
mutual
def uptoBulk {H : Type} : DataW H → Nat
  | .lit (.string bytes) => bytes.length + 1
  | .lit _ => 1
  | .nil => 1
  | .ptr d => uptoBulk d + 1
  | .slice elems spare => uptoBulkAll elems + uptoBulkAll spare + 1
  | .agg parts => uptoBulkAll parts + 1
  | .iface _ d => uptoBulk d + 1
  | .map entries => uptoBulkEntries entries + 1
  | .held _ => 1
def uptoBulkAll {H : Type} : List (DataW H) → Nat
  | [] => 0
  | d :: r => uptoBulk d + uptoBulkAll r
def uptoBulkEntries {H : Type} : List (Lit × DataW H) → Nat
  | [] => 0
  | x :: r => uptoBulkEntry x + uptoBulkEntries r
def uptoBulkEntry {H : Type} : Lit × DataW H → Nat
  | (.string bytes, d) => bytes.length + uptoBulk d + 1
  | (_, d) => uptoBulk d + 1
 end
def uptoSmall : (H : Type) → List (DataW H) → Bool := fun _ ds => decide (uptoBulkAll ds ≤ 1048576)
def OpenSpec.upto (s : _root_.Go.ChangeSpec) : _root_.Go.OpenSpec := { _root_.Go.OpenSpec.ofChange s with cond := some uptoSmall }

/-- 'shardlaw2.CodecBurst', WHERE WHAT IT READS IS OF BULK AT MOST 1048576: true; the input reads as it did. -/
def codecBurstUptoRow : OpenClaim := { program := "ytfhoekcmkbeabaa", sum := "96d71842b9d3dc0a91ef91457d9d282258a44a465482c64e23b5ea5006ea13d5", func := "shard/shardlaw2.CodecBurst", spec := "codecBurst", apart := false, narrowed := true }
def CodecBurstUptoSaid : Prop := codecBurstUptoRow.holds Try.pinned (OpenSpec.upto codecBurstSpec)

/-- 'shardlaw2.CodecZeros', WHERE WHAT IT READS IS OF BULK AT MOST 1048576: true; the input reads as it did. -/
def codecZerosUptoRow : OpenClaim := { program := "ytfhoekcmkbeabaa", sum := "96d71842b9d3dc0a91ef91457d9d282258a44a465482c64e23b5ea5006ea13d5", func := "shard/shardlaw2.CodecZeros", spec := "codecZeros", apart := false, narrowed := true }
def CodecZerosUptoSaid : Prop := codecZerosUptoRow.holds Try.pinned (OpenSpec.upto codecZerosSpec)

/-- 'shardlaw2.CodecSums', WHERE WHAT IT READS IS OF BULK AT MOST 1048576: true; the input reads as it did. -/
def codecSumsUptoRow : OpenClaim := { program := "ytfhoekcmkbeabaa", sum := "96d71842b9d3dc0a91ef91457d9d282258a44a465482c64e23b5ea5006ea13d5", func := "shard/shardlaw2.CodecSums", spec := "codecSums", recurses := true, apart := false, narrowed := true }
def CodecSumsUptoSaid : Prop := codecSumsUptoRow.holds Try.pinned (OpenSpec.upto codecSumsSpec)

/-- 'shardlaw2.CodecJoin', WHERE WHAT IT READS IS OF BULK AT MOST 1048576: true; the input reads as it did. -/
def codecJoinUptoRow : OpenClaim := { program := "ytfhoekcmkbeabaa", sum := "96d71842b9d3dc0a91ef91457d9d282258a44a465482c64e23b5ea5006ea13d5", func := "shard/shardlaw2.CodecJoin", spec := "codecJoin", apart := false, narrowed := true }
def CodecJoinUptoSaid : Prop := codecJoinUptoRow.holds Try.pinned (OpenSpec.upto codecJoinSpec)

/-- 'shardlaw2.CodecWrites', WHERE WHAT IT READS IS OF BULK AT MOST 1048576: true; the input reads as it did. -/
def codecWritesUptoRow : OpenClaim := { program := "ytfhoekcmkbeabaa", sum := "96d71842b9d3dc0a91ef91457d9d282258a44a465482c64e23b5ea5006ea13d5", func := "shard/shardlaw2.CodecWrites", spec := "codecWrites", apart := false, narrowed := true }
def CodecWritesUptoSaid : Prop := codecWritesUptoRow.holds Try.pinned (OpenSpec.upto codecWritesSpec)

/-- 'shardlaw2.CodecFrames', WHERE WHAT IT READS IS OF BULK AT MOST 1048576: true; the input reads as it did. -/
def codecFramesUptoRow : OpenClaim := { program := "ytfhoekcmkbeabaa", sum := "96d71842b9d3dc0a91ef91457d9d282258a44a465482c64e23b5ea5006ea13d5", func := "shard/shardlaw2.CodecFrames", spec := "codecFrames", apart := false, narrowed := true }
def CodecFramesUptoSaid : Prop := codecFramesUptoRow.holds Try.pinned (OpenSpec.upto codecFramesSpec)

/-- 'shardlaw2.CodecTorn', WHERE WHAT IT READS IS OF BULK AT MOST 1048576: true; the input reads as it did. -/
def codecTornUptoRow : OpenClaim := { program := "ytfhoekcmkbeabaa", sum := "96d71842b9d3dc0a91ef91457d9d282258a44a465482c64e23b5ea5006ea13d5", func := "shard/shardlaw2.CodecTorn", spec := "codecTorn", apart := false, narrowed := true }
def CodecTornUptoSaid : Prop := codecTornUptoRow.holds Try.pinned (OpenSpec.upto codecTornSpec)

/-- 'shardlaw2.CodecSpoilt', WHERE WHAT IT READS IS OF BULK AT MOST 1048576: true; the input reads as it did. -/
def codecSpoiltUptoRow : OpenClaim := { program := "ytfhoekcmkbeabaa", sum := "96d71842b9d3dc0a91ef91457d9d282258a44a465482c64e23b5ea5006ea13d5", func := "shard/shardlaw2.CodecSpoilt", spec := "codecSpoilt", apart := false, narrowed := true }
def CodecSpoiltUptoSaid : Prop := codecSpoiltUptoRow.holds Try.pinned (OpenSpec.upto codecSpoiltSpec)

/-- 'shardlaw2.CodecReads', WHERE WHAT IT READS IS OF BULK AT MOST 1048576: true; the input reads as it did. -/
def codecReadsUptoRow : OpenClaim := { program := "ytfhoekcmkbeabaa", sum := "96d71842b9d3dc0a91ef91457d9d282258a44a465482c64e23b5ea5006ea13d5", func := "shard/shardlaw2.CodecReads", spec := "codecReads", apart := false, narrowed := true }
def CodecReadsUptoSaid : Prop := codecReadsUptoRow.holds Try.pinned (OpenSpec.upto codecReadsSpec)

/-- 'shardlaw2.CodecCanon', WHERE WHAT IT READS IS OF BULK AT MOST 1048576: true; the input reads as it did. -/
def codecCanonUptoRow : OpenClaim := { program := "ytfhoekcmkbeabaa", sum := "96d71842b9d3dc0a91ef91457d9d282258a44a465482c64e23b5ea5006ea13d5", func := "shard/shardlaw2.CodecCanon", spec := "codecCanon", apart := false, narrowed := true }
def CodecCanonUptoSaid : Prop := codecCanonUptoRow.holds Try.pinned (OpenSpec.upto codecCanonSpec)

/-- 'shardlaw2.CodecRound', WHERE WHAT IT READS IS OF BULK AT MOST 1048576: true; the input reads as it did. -/
def codecRoundUptoRow : OpenClaim := { program := "ytfhoekcmkbeabaa", sum := "96d71842b9d3dc0a91ef91457d9d282258a44a465482c64e23b5ea5006ea13d5", func := "shard/shardlaw2.CodecRound", spec := "codecRound", apart := false, narrowed := true }
def CodecRoundUptoSaid : Prop := codecRoundUptoRow.holds Try.pinned (OpenSpec.upto codecRoundSpec)

/-- 'shardlaw2.CodecFresh', WHERE WHAT IT READS IS OF BULK AT MOST 1048576: true; the input reads as it did. -/
def codecFreshUptoRow : OpenClaim := { program := "ytfhoekcmkbeabaa", sum := "96d71842b9d3dc0a91ef91457d9d282258a44a465482c64e23b5ea5006ea13d5", func := "shard/shardlaw2.CodecFresh", spec := "codecFresh", apart := false, narrowed := true }
def CodecFreshUptoSaid : Prop := codecFreshUptoRow.holds Try.pinned (OpenSpec.upto codecFreshSpec)

end Rows
end Go.Proofs.Ytfhoekcmkbeabaa
