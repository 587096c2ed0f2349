/-
  No cell of these rows narrows 'for every input' (looked for: loops, veiled, ifaces, maps, wideKeys, modest, calm, conditions, laid).
  DERIVED. THE GIVEN ROWS OF THIS SEAT. 10 by the template 'for every input the law returns true; each argument reads behind the call as it read before'; 0 by the template 'total and deterministic' (their statements: YtklmckbpbloonaaTotals.lean).
  GIVEN WITH THE SEED: the statements are not yours to turn. If you find one false, say at which input.
  Laid BY PROGRAM, IN A SANDBOX (cutbox-rows.mjs): the forced cells as the released guide's own fill.sh prints them over the translation f2e33d6953bd6c51… (all of the seat's roots in one cut). By AI agents, Wed Nov 11 2026. No macro, syntax, notation, axiom, sorry.
-/
import Derived.Test.YtklmckbpbloonaaChecked
import GoSem.Claim
import GoSem.ClaimJoined
import GoSem.ClaimMapViews
import Derived.JoinedTies
import Derived.KernelRfl
namespace Go.Proofs.Ytklmckbpbloonaa
/- THE CELL 'sum', in the pinned program and in every row, IS THE sha256 OF THE DUMP (.gsa) THAT YtklmckbpbloonaaProg.lean LOADS. Nothing in Lean hashes anything: it is a label: what it is worth is what the hold of that sum in a sandbox is worth. -/
noncomputable def Try.pinned : Pinned := { name := "ytklmckbpbloonaa", sum := "f2e33d6953bd6c51328c7e0e696d1c8081697e142100e61812f9193dcdfe5884", checked := Try.checked }
namespace Rows
def none {H : Type} : Left H := { results := [], args := [] }

/-- 'parterrelaw09.GraphChecks': WHATEVER THE INPUT: true; the input reads as it did. -/
def graphChecksSpec : ChangeSpec := { name := "graphChecks", fn := fun _ => fun
  | [d] => { results := [.lit (.bool true)], args := [d] }
  | _ => none }
def graphChecksRow : OpenClaim := { program := "ytklmckbpbloonaa", sum := "f2e33d6953bd6c51328c7e0e696d1c8081697e142100e61812f9193dcdfe5884", func := "parterre/parterrelaw09.GraphChecks", spec := "graphChecks", unfollowed := true, recurses := true, plainKeys := false, apart := false }
def GraphChecksSaid : Prop := graphChecksRow.holds Try.pinned (OpenSpec.ofChange graphChecksSpec)

/-- ITS FALSE NEIGHBOUR: 'it returns false'. Refute it at one input. -/
def graphChecksWrong : ChangeSpec := { name := "graphChecks", fn := fun _ => fun
  | [d] => { results := [.lit (.bool false)], args := [d] }
  | _ => none }
def GraphChecksWrongFalsely : Prop := graphChecksRow.holds Try.pinned (OpenSpec.ofChange graphChecksWrong)

/-- 'parterrelaw09.GraphLooks': WHATEVER THE INPUT: true; the input reads as it did. -/
def graphLooksSpec : ChangeSpec := { name := "graphLooks", fn := fun _ => fun
  | [d1, d2, d3, d4] => { results := [.lit (.bool true)], args := [d1, d2, d3, d4] }
  | _ => none }
def graphLooksRow : OpenClaim := { program := "ytklmckbpbloonaa", sum := "f2e33d6953bd6c51328c7e0e696d1c8081697e142100e61812f9193dcdfe5884", func := "parterre/parterrelaw09.GraphLooks", spec := "graphLooks", unfollowed := true, recurses := true, plainKeys := false, apart := false }
def GraphLooksSaid : Prop := graphLooksRow.holds Try.pinned (OpenSpec.ofChange graphLooksSpec)

/-- ITS FALSE NEIGHBOUR: 'it returns false'. Refute it at one input. -/
def graphLooksWrong : ChangeSpec := { name := "graphLooks", fn := fun _ => fun
  | [d1, d2, d3, d4] => { results := [.lit (.bool false)], args := [d1, d2, d3, d4] }
  | _ => none }
def GraphLooksWrongFalsely : Prop := graphLooksRow.holds Try.pinned (OpenSpec.ofChange graphLooksWrong)

/-- 'parterrelaw18.UnionPicks': WHATEVER THE INPUT: true; the input reads as it did. -/
def unionPicksSpec : ChangeSpec := { name := "unionPicks", fn := fun _ => fun
  | [d1, d2, d3] => { results := [.lit (.bool true)], args := [d1, d2, d3] }
  | _ => none }
def unionPicksRow : OpenClaim := { program := "ytklmckbpbloonaa", sum := "f2e33d6953bd6c51328c7e0e696d1c8081697e142100e61812f9193dcdfe5884", func := "parterre/parterrelaw18.UnionPicks", spec := "unionPicks", unfollowed := true, recurses := true, plainKeys := false, apart := false }
def UnionPicksSaid : Prop := unionPicksRow.holds Try.pinned (OpenSpec.ofChange unionPicksSpec)

/-- ITS FALSE NEIGHBOUR: 'it returns false'. Refute it at one input. -/
def unionPicksWrong : ChangeSpec := { name := "unionPicks", fn := fun _ => fun
  | [d1, d2, d3] => { results := [.lit (.bool false)], args := [d1, d2, d3] }
  | _ => none }
def UnionPicksWrongFalsely : Prop := unionPicksRow.holds Try.pinned (OpenSpec.ofChange unionPicksWrong)

/-- 'parterrelaw18.UnionOf': WHATEVER THE INPUT: true; the input reads as it did. -/
def unionOfSpec : ChangeSpec := { name := "unionOf", fn := fun _ => fun
  | [d1, d2, d3] => { results := [.lit (.bool true)], args := [d1, d2, d3] }
  | _ => none }
def unionOfRow : OpenClaim := { program := "ytklmckbpbloonaa", sum := "f2e33d6953bd6c51328c7e0e696d1c8081697e142100e61812f9193dcdfe5884", func := "parterre/parterrelaw18.UnionOf", spec := "unionOf", unfollowed := true, recurses := true, plainKeys := false, apart := false }
def UnionOfSaid : Prop := unionOfRow.holds Try.pinned (OpenSpec.ofChange unionOfSpec)

/-- ITS FALSE NEIGHBOUR: 'it returns false'. Refute it at one input. -/
def unionOfWrong : ChangeSpec := { name := "unionOf", fn := fun _ => fun
  | [d1, d2, d3] => { results := [.lit (.bool false)], args := [d1, d2, d3] }
  | _ => none }
def UnionOfWrongFalsely : Prop := unionOfRow.holds Try.pinned (OpenSpec.ofChange unionOfWrong)

/-- 'parterrelaw18.UnionTurns': WHATEVER THE INPUT: true; the input reads as it did. -/
def unionTurnsSpec : ChangeSpec := { name := "unionTurns", fn := fun _ => fun
  | [d1, d2, d3] => { results := [.lit (.bool true)], args := [d1, d2, d3] }
  | _ => none }
def unionTurnsRow : OpenClaim := { program := "ytklmckbpbloonaa", sum := "f2e33d6953bd6c51328c7e0e696d1c8081697e142100e61812f9193dcdfe5884", func := "parterre/parterrelaw18.UnionTurns", spec := "unionTurns", unfollowed := true, recurses := true, plainKeys := false, apart := false }
def UnionTurnsSaid : Prop := unionTurnsRow.holds Try.pinned (OpenSpec.ofChange unionTurnsSpec)

/-- ITS FALSE NEIGHBOUR: 'it returns false'. Refute it at one input. -/
def unionTurnsWrong : ChangeSpec := { name := "unionTurns", fn := fun _ => fun
  | [d1, d2, d3] => { results := [.lit (.bool false)], args := [d1, d2, d3] }
  | _ => none }
def UnionTurnsWrongFalsely : Prop := unionTurnsRow.holds Try.pinned (OpenSpec.ofChange unionTurnsWrong)

/-- 'parterrelaw13.BlockApart': WHATEVER THE INPUT: true; the input reads as it did. -/
def blockApartSpec : ChangeSpec := { name := "blockApart", fn := fun _ => fun
  | [d] => { results := [.lit (.bool true)], args := [d] }
  | _ => none }
def blockApartRow : OpenClaim := { program := "ytklmckbpbloonaa", sum := "f2e33d6953bd6c51328c7e0e696d1c8081697e142100e61812f9193dcdfe5884", func := "parterre/parterrelaw13.BlockApart", spec := "blockApart", unfollowed := true, recurses := true, plainKeys := false, apart := false }
def BlockApartSaid : Prop := blockApartRow.holds Try.pinned (OpenSpec.ofChange blockApartSpec)

/-- ITS FALSE NEIGHBOUR: 'it returns false'. Refute it at one input. -/
def blockApartWrong : ChangeSpec := { name := "blockApart", fn := fun _ => fun
  | [d] => { results := [.lit (.bool false)], args := [d] }
  | _ => none }
def BlockApartWrongFalsely : Prop := blockApartRow.holds Try.pinned (OpenSpec.ofChange blockApartWrong)

/-- 'parterrelaw13.BlockCuts': WHATEVER THE INPUT: true; the input reads as it did. -/
def blockCutsSpec : ChangeSpec := { name := "blockCuts", fn := fun _ => fun
  | [d] => { results := [.lit (.bool true)], args := [d] }
  | _ => none }
def blockCutsRow : OpenClaim := { program := "ytklmckbpbloonaa", sum := "f2e33d6953bd6c51328c7e0e696d1c8081697e142100e61812f9193dcdfe5884", func := "parterre/parterrelaw13.BlockCuts", spec := "blockCuts", unfollowed := true, recurses := true, plainKeys := false, apart := false }
def BlockCutsSaid : Prop := blockCutsRow.holds Try.pinned (OpenSpec.ofChange blockCutsSpec)

/-- ITS FALSE NEIGHBOUR: 'it returns false'. Refute it at one input. -/
def blockCutsWrong : ChangeSpec := { name := "blockCuts", fn := fun _ => fun
  | [d] => { results := [.lit (.bool false)], args := [d] }
  | _ => none }
def BlockCutsWrongFalsely : Prop := blockCutsRow.holds Try.pinned (OpenSpec.ofChange blockCutsWrong)

/-- 'parterrelaw10.RotMakes': WHATEVER THE INPUT: true; the input reads as it did. -/
def rotMakesSpec : ChangeSpec := { name := "rotMakes", fn := fun _ => fun
  | [d1, d2] => { results := [.lit (.bool true)], args := [d1, d2] }
  | _ => none }
def rotMakesRow : OpenClaim := { program := "ytklmckbpbloonaa", sum := "f2e33d6953bd6c51328c7e0e696d1c8081697e142100e61812f9193dcdfe5884", func := "parterre/parterrelaw10.RotMakes", spec := "rotMakes", unfollowed := true, recurses := true, plainKeys := false, apart := false }
def RotMakesSaid : Prop := rotMakesRow.holds Try.pinned (OpenSpec.ofChange rotMakesSpec)

/-- ITS FALSE NEIGHBOUR: 'it returns false'. Refute it at one input. -/
def rotMakesWrong : ChangeSpec := { name := "rotMakes", fn := fun _ => fun
  | [d1, d2] => { results := [.lit (.bool false)], args := [d1, d2] }
  | _ => none }
def RotMakesWrongFalsely : Prop := rotMakesRow.holds Try.pinned (OpenSpec.ofChange rotMakesWrong)

/-- 'parterrelaw13.BlockLooks': WHATEVER THE INPUT: true; the input reads as it did. -/
def blockLooksSpec : ChangeSpec := { name := "blockLooks", fn := fun _ => fun
  | [d1, d2] => { results := [.lit (.bool true)], args := [d1, d2] }
  | _ => none }
def blockLooksRow : OpenClaim := { program := "ytklmckbpbloonaa", sum := "f2e33d6953bd6c51328c7e0e696d1c8081697e142100e61812f9193dcdfe5884", func := "parterre/parterrelaw13.BlockLooks", spec := "blockLooks", unfollowed := true, recurses := true, plainKeys := false, apart := false }
def BlockLooksSaid : Prop := blockLooksRow.holds Try.pinned (OpenSpec.ofChange blockLooksSpec)

/-- ITS FALSE NEIGHBOUR: 'it returns false'. Refute it at one input. -/
def blockLooksWrong : ChangeSpec := { name := "blockLooks", fn := fun _ => fun
  | [d1, d2] => { results := [.lit (.bool false)], args := [d1, d2] }
  | _ => none }
def BlockLooksWrongFalsely : Prop := blockLooksRow.holds Try.pinned (OpenSpec.ofChange blockLooksWrong)

/-- 'parterrelaw13.BlockPaths': WHATEVER THE INPUT: true; the input reads as it did. -/
def blockPathsSpec : ChangeSpec := { name := "blockPaths", fn := fun _ => fun
  | [d1, d2, d3, d4, d5] => { results := [.lit (.bool true)], args := [d1, d2, d3, d4, d5] }
  | _ => none }
def blockPathsRow : OpenClaim := { program := "ytklmckbpbloonaa", sum := "f2e33d6953bd6c51328c7e0e696d1c8081697e142100e61812f9193dcdfe5884", func := "parterre/parterrelaw13.BlockPaths", spec := "blockPaths", unfollowed := true, recurses := true, plainKeys := false, apart := false }
def BlockPathsSaid : Prop := blockPathsRow.holds Try.pinned (OpenSpec.ofChange blockPathsSpec)

/-- ITS FALSE NEIGHBOUR: 'it returns false'. Refute it at one input. -/
def blockPathsWrong : ChangeSpec := { name := "blockPaths", fn := fun _ => fun
  | [d1, d2, d3, d4, d5] => { results := [.lit (.bool false)], args := [d1, d2, d3, d4, d5] }
  | _ => none }
def BlockPathsWrongFalsely : Prop := blockPathsRow.holds Try.pinned (OpenSpec.ofChange blockPathsWrong)

/- THE SECOND FORM. 'bulk': how many values and letters a reading holds, each counted each time it is reached (what is shared counts as often as it is met; a slice's spare places count too). A statement '..UptoSaid' is the law's where the arguments, and the package variables that the reading takes, are together of bulk at most 1048576: NARROWER than '..Said'. Prove '..Said' where nothing that the law and all that it calls make is longer than what came in: it says more and counts as full. Else prove '..UptoSaid'. A law counts once. -/
mutual
def uptoBulk {H : Type} : DataW H → Nat
  | .lit (.string bytes) => bytes.length + 1
  | .lit _ => 1
  | .nil => 1
  | .ptr d => uptoBulk d + 1
  | .slice elems spare => uptoBulkAll elems + uptoBulkAll spare + 1
  | .agg parts => uptoBulkAll parts + 1
  | .iface _ d => uptoBulk d + 1
  | .map entries => uptoBulkEntries entries + 1
  | .held _ => 1
def uptoBulkAll {H : Type} : List (DataW H) → Nat
  | [] => 0
  | d :: r => uptoBulk d + uptoBulkAll r
def uptoBulkEntries {H : Type} : List (Lit × DataW H) → Nat
  | [] => 0
  | x :: r => uptoBulkEntry x + uptoBulkEntries r
def uptoBulkEntry {H : Type} : Lit × DataW H → Nat
  | (.string bytes, d) => bytes.length + uptoBulk d + 1
  | (_, d) => uptoBulk d + 1
 end
def uptoSmall : (H : Type) → List (DataW H) → Bool := fun _ ds => decide (uptoBulkAll ds ≤ 1048576)
def OpenSpec.upto (s : _root_.Go.ChangeSpec) : _root_.Go.OpenSpec := { _root_.Go.OpenSpec.ofChange s with cond := some uptoSmall }

/-- 'parterrelaw09.GraphChecks', WHERE WHAT IT READS IS OF BULK AT MOST 1048576: true; the input reads as it did. -/
def graphChecksUptoRow : OpenClaim := { program := "ytklmckbpbloonaa", sum := "f2e33d6953bd6c51328c7e0e696d1c8081697e142100e61812f9193dcdfe5884", func := "parterre/parterrelaw09.GraphChecks", spec := "graphChecks", unfollowed := true, recurses := true, plainKeys := false, apart := false, narrowed := true }
def GraphChecksUptoSaid : Prop := graphChecksUptoRow.holds Try.pinned (OpenSpec.upto graphChecksSpec)

/-- 'parterrelaw09.GraphLooks', WHERE WHAT IT READS IS OF BULK AT MOST 1048576: true; the input reads as it did. -/
def graphLooksUptoRow : OpenClaim := { program := "ytklmckbpbloonaa", sum := "f2e33d6953bd6c51328c7e0e696d1c8081697e142100e61812f9193dcdfe5884", func := "parterre/parterrelaw09.GraphLooks", spec := "graphLooks", unfollowed := true, recurses := true, plainKeys := false, apart := false, narrowed := true }
def GraphLooksUptoSaid : Prop := graphLooksUptoRow.holds Try.pinned (OpenSpec.upto graphLooksSpec)

/-- 'parterrelaw18.UnionPicks', WHERE WHAT IT READS IS OF BULK AT MOST 1048576: true; the input reads as it did. -/
def unionPicksUptoRow : OpenClaim := { program := "ytklmckbpbloonaa", sum := "f2e33d6953bd6c51328c7e0e696d1c8081697e142100e61812f9193dcdfe5884", func := "parterre/parterrelaw18.UnionPicks", spec := "unionPicks", unfollowed := true, recurses := true, plainKeys := false, apart := false, narrowed := true }
def UnionPicksUptoSaid : Prop := unionPicksUptoRow.holds Try.pinned (OpenSpec.upto unionPicksSpec)

/-- 'parterrelaw18.UnionOf', WHERE WHAT IT READS IS OF BULK AT MOST 1048576: true; the input reads as it did. -/
def unionOfUptoRow : OpenClaim := { program := "ytklmckbpbloonaa", sum := "f2e33d6953bd6c51328c7e0e696d1c8081697e142100e61812f9193dcdfe5884", func := "parterre/parterrelaw18.UnionOf", spec := "unionOf", unfollowed := true, recurses := true, plainKeys := false, apart := false, narrowed := true }
def UnionOfUptoSaid : Prop := unionOfUptoRow.holds Try.pinned (OpenSpec.upto unionOfSpec)

/-- 'parterrelaw18.UnionTurns', WHERE WHAT IT READS IS OF BULK AT MOST 1048576: true; the input reads as it did. -/
def unionTurnsUptoRow : OpenClaim := { program := "ytklmckbpbloonaa", sum := "f2e33d6953bd6c51328c7e0e696d1c8081697e142100e61812f9193dcdfe5884", func := "parterre/parterrelaw18.UnionTurns", spec := "unionTurns", unfollowed := true, recurses := true, plainKeys := false, apart := false, narrowed := true }
def UnionTurnsUptoSaid : Prop := unionTurnsUptoRow.holds Try.pinned (OpenSpec.upto unionTurnsSpec)

/-- 'parterrelaw13.BlockApart', WHERE WHAT IT READS IS OF BULK AT MOST 1048576: true; the input reads as it did. -/
def blockApartUptoRow : OpenClaim := { program := "ytklmckbpbloonaa", sum := "f2e33d6953bd6c51328c7e0e696d1c8081697e142100e61812f9193dcdfe5884", func := "parterre/parterrelaw13.BlockApart", spec := "blockApart", unfollowed := true, recurses := true, plainKeys := false, apart := false, narrowed := true }
def BlockApartUptoSaid : Prop := blockApartUptoRow.holds Try.pinned (OpenSpec.upto blockApartSpec)

/-- 'parterrelaw13.BlockCuts', WHERE WHAT IT READS IS OF BULK AT MOST 1048576: true; the input reads as it did. -/
def blockCutsUptoRow : OpenClaim := { program := "ytklmckbpbloonaa", sum := "f2e33d6953bd6c51328c7e0e696d1c8081697e142100e61812f9193dcdfe5884", func := "parterre/parterrelaw13.BlockCuts", spec := "blockCuts", unfollowed := true, recurses := true, plainKeys := false, apart := false, narrowed := true }
def BlockCutsUptoSaid : Prop := blockCutsUptoRow.holds Try.pinned (OpenSpec.upto blockCutsSpec)

/-- 'parterrelaw10.RotMakes', WHERE WHAT IT READS IS OF BULK AT MOST 1048576: true; the input reads as it did. -/
def rotMakesUptoRow : OpenClaim := { program := "ytklmckbpbloonaa", sum := "f2e33d6953bd6c51328c7e0e696d1c8081697e142100e61812f9193dcdfe5884", func := "parterre/parterrelaw10.RotMakes", spec := "rotMakes", unfollowed := true, recurses := true, plainKeys := false, apart := false, narrowed := true }
def RotMakesUptoSaid : Prop := rotMakesUptoRow.holds Try.pinned (OpenSpec.upto rotMakesSpec)

/-- 'parterrelaw13.BlockLooks', WHERE WHAT IT READS IS OF BULK AT MOST 1048576: true; the input reads as it did. -/
def blockLooksUptoRow : OpenClaim := { program := "ytklmckbpbloonaa", sum := "f2e33d6953bd6c51328c7e0e696d1c8081697e142100e61812f9193dcdfe5884", func := "parterre/parterrelaw13.BlockLooks", spec := "blockLooks", unfollowed := true, recurses := true, plainKeys := false, apart := false, narrowed := true }
def BlockLooksUptoSaid : Prop := blockLooksUptoRow.holds Try.pinned (OpenSpec.upto blockLooksSpec)

/-- 'parterrelaw13.BlockPaths', WHERE WHAT IT READS IS OF BULK AT MOST 1048576: true; the input reads as it did. -/
def blockPathsUptoRow : OpenClaim := { program := "ytklmckbpbloonaa", sum := "f2e33d6953bd6c51328c7e0e696d1c8081697e142100e61812f9193dcdfe5884", func := "parterre/parterrelaw13.BlockPaths", spec := "blockPaths", unfollowed := true, recurses := true, plainKeys := false, apart := false, narrowed := true }
def BlockPathsUptoSaid : Prop := blockPathsUptoRow.holds Try.pinned (OpenSpec.upto blockPathsSpec)

end Rows
end Go.Proofs.Ytklmckbpbloonaa
