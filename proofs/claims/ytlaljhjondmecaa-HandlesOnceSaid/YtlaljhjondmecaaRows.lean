/-
  No cell of these rows narrows 'for every input' (looked for: loops, veiled, ifaces, maps, wideKeys, modest, calm, conditions, laid).
  DERIVED. THE GIVEN ROWS OF THIS SEAT. 12 by the template 'for every input the law returns true; each argument reads behind the call as it read before'; 0 by the template 'total and deterministic' (their statements: YtlaljhjondmecaaTotals.lean).
  GIVEN WITH THE SEED: the statements are not yours to turn. If you find one false, say at which input.
  Laid BY PROGRAM, IN A SANDBOX (cutbox-rows.mjs): the forced cells as the released guide's own fill.sh prints them over the translation b6d1eef1715afa50… (all of the seat's roots in one cut). By AI agents, Wed Nov 11 2026. No macro, syntax, notation, axiom, sorry.
-/
import Derived.Test.YtlaljhjondmecaaChecked
import GoSem.Claim
import GoSem.ClaimJoined
import GoSem.ClaimMapViews
import Derived.JoinedTies
import Derived.KernelRfl
namespace Go.Proofs.Ytlaljhjondmecaa
/- THE CELL 'sum', in the pinned program and in every row, IS THE sha256 OF THE DUMP (.gsa) THAT YtlaljhjondmecaaProg.lean LOADS. Nothing in Lean hashes anything: it is a label: what it is worth is what the hold of that sum in a sandbox is worth. -/
noncomputable def Try.pinned : Pinned := { name := "ytlaljhjondmecaa", sum := "b6d1eef1715afa50c59e5c06dcdc5ed236fb978b56bcdf585a1bcf3712e89a35", checked := Try.checked }
namespace Rows
def none {H : Type} : Left H := { results := [], args := [] }

/-- 'astragallaw37.TapeTells': WHATEVER THE INPUT: true; the input reads as it did. -/
def tapeTellsSpec : ChangeSpec := { name := "tapeTells", fn := fun _ => fun
  | [d] => { results := [.lit (.bool true)], args := [d] }
  | _ => none }
def tapeTellsRow : OpenClaim := { program := "ytlaljhjondmecaa", sum := "b6d1eef1715afa50c59e5c06dcdc5ed236fb978b56bcdf585a1bcf3712e89a35", func := "astragal/astragallaw37.TapeTells", spec := "tapeTells", unfollowed := true, recurses := true, apart := false }
def TapeTellsSaid : Prop := tapeTellsRow.holds Try.pinned (OpenSpec.ofChange tapeTellsSpec)

/-- ITS FALSE NEIGHBOUR: 'it returns false'. Refute it at one input. -/
def tapeTellsWrong : ChangeSpec := { name := "tapeTells", fn := fun _ => fun
  | [d] => { results := [.lit (.bool false)], args := [d] }
  | _ => none }
def TapeTellsWrongFalsely : Prop := tapeTellsRow.holds Try.pinned (OpenSpec.ofChange tapeTellsWrong)

/-- 'astragallaw48.HandlesOnce': WHATEVER THE INPUT: true; the input reads as it did. -/
def handlesOnceSpec : ChangeSpec := { name := "handlesOnce", fn := fun _ => fun
  | [d1, d2] => { results := [.lit (.bool true)], args := [d1, d2] }
  | _ => none }
def handlesOnceRow : OpenClaim := { program := "ytlaljhjondmecaa", sum := "b6d1eef1715afa50c59e5c06dcdc5ed236fb978b56bcdf585a1bcf3712e89a35", func := "astragal/astragallaw48.HandlesOnce", spec := "handlesOnce", unfollowed := true, recurses := true, apart := false }
def HandlesOnceSaid : Prop := handlesOnceRow.holds Try.pinned (OpenSpec.ofChange handlesOnceSpec)

/-- ITS FALSE NEIGHBOUR: 'it returns false'. Refute it at one input. -/
def handlesOnceWrong : ChangeSpec := { name := "handlesOnce", fn := fun _ => fun
  | [d1, d2] => { results := [.lit (.bool false)], args := [d1, d2] }
  | _ => none }
def HandlesOnceWrongFalsely : Prop := handlesOnceRow.holds Try.pinned (OpenSpec.ofChange handlesOnceWrong)

/-- 'astragallaw42.ReservoirSlots': WHATEVER THE INPUT: true; the input reads as it did. -/
def reservoirSlotsSpec : ChangeSpec := { name := "reservoirSlots", fn := fun _ => fun
  | [d1, d2, d3] => { results := [.lit (.bool true)], args := [d1, d2, d3] }
  | _ => none }
def reservoirSlotsRow : OpenClaim := { program := "ytlaljhjondmecaa", sum := "b6d1eef1715afa50c59e5c06dcdc5ed236fb978b56bcdf585a1bcf3712e89a35", func := "astragal/astragallaw42.ReservoirSlots", spec := "reservoirSlots", unfollowed := true, recurses := true, apart := false }
def ReservoirSlotsSaid : Prop := reservoirSlotsRow.holds Try.pinned (OpenSpec.ofChange reservoirSlotsSpec)

/-- ITS FALSE NEIGHBOUR: 'it returns false'. Refute it at one input. -/
def reservoirSlotsWrong : ChangeSpec := { name := "reservoirSlots", fn := fun _ => fun
  | [d1, d2, d3] => { results := [.lit (.bool false)], args := [d1, d2, d3] }
  | _ => none }
def ReservoirSlotsWrongFalsely : Prop := reservoirSlotsRow.holds Try.pinned (OpenSpec.ofChange reservoirSlotsWrong)

/-- 'astragallaw40.ShuffleOrders': WHATEVER THE INPUT: true; the input reads as it did. -/
def shuffleOrdersSpec : ChangeSpec := { name := "shuffleOrders", fn := fun _ => fun
  | [d1, d2] => { results := [.lit (.bool true)], args := [d1, d2] }
  | _ => none }
def shuffleOrdersRow : OpenClaim := { program := "ytlaljhjondmecaa", sum := "b6d1eef1715afa50c59e5c06dcdc5ed236fb978b56bcdf585a1bcf3712e89a35", func := "astragal/astragallaw40.ShuffleOrders", spec := "shuffleOrders", recurses := true, apart := false }
def ShuffleOrdersSaid : Prop := shuffleOrdersRow.holds Try.pinned (OpenSpec.ofChange shuffleOrdersSpec)

/-- ITS FALSE NEIGHBOUR: 'it returns false'. Refute it at one input. -/
def shuffleOrdersWrong : ChangeSpec := { name := "shuffleOrders", fn := fun _ => fun
  | [d1, d2] => { results := [.lit (.bool false)], args := [d1, d2] }
  | _ => none }
def ShuffleOrdersWrongFalsely : Prop := shuffleOrdersRow.holds Try.pinned (OpenSpec.ofChange shuffleOrdersWrong)

/-- 'astragallaw40.ShuffleOnly': WHATEVER THE INPUT: true; the input reads as it did. -/
def shuffleOnlySpec : ChangeSpec := { name := "shuffleOnly", fn := fun _ => fun
  | [d] => { results := [.lit (.bool true)], args := [d] }
  | _ => none }
def shuffleOnlyRow : OpenClaim := { program := "ytlaljhjondmecaa", sum := "b6d1eef1715afa50c59e5c06dcdc5ed236fb978b56bcdf585a1bcf3712e89a35", func := "astragal/astragallaw40.ShuffleOnly", spec := "shuffleOnly", recurses := true, apart := false }
def ShuffleOnlySaid : Prop := shuffleOnlyRow.holds Try.pinned (OpenSpec.ofChange shuffleOnlySpec)

/-- ITS FALSE NEIGHBOUR: 'it returns false'. Refute it at one input. -/
def shuffleOnlyWrong : ChangeSpec := { name := "shuffleOnly", fn := fun _ => fun
  | [d] => { results := [.lit (.bool false)], args := [d] }
  | _ => none }
def ShuffleOnlyWrongFalsely : Prop := shuffleOnlyRow.holds Try.pinned (OpenSpec.ofChange shuffleOnlyWrong)

/-- 'astragallaw40.ShuffleThen': WHATEVER THE INPUT: true; the input reads as it did. -/
def shuffleThenSpec : ChangeSpec := { name := "shuffleThen", fn := fun _ => fun
  | [d1, d2] => { results := [.lit (.bool true)], args := [d1, d2] }
  | _ => none }
def shuffleThenRow : OpenClaim := { program := "ytlaljhjondmecaa", sum := "b6d1eef1715afa50c59e5c06dcdc5ed236fb978b56bcdf585a1bcf3712e89a35", func := "astragal/astragallaw40.ShuffleThen", spec := "shuffleThen", unfollowed := true, recurses := true, apart := false }
def ShuffleThenSaid : Prop := shuffleThenRow.holds Try.pinned (OpenSpec.ofChange shuffleThenSpec)

/-- ITS FALSE NEIGHBOUR: 'it returns false'. Refute it at one input. -/
def shuffleThenWrong : ChangeSpec := { name := "shuffleThen", fn := fun _ => fun
  | [d1, d2] => { results := [.lit (.bool false)], args := [d1, d2] }
  | _ => none }
def ShuffleThenWrongFalsely : Prop := shuffleThenRow.holds Try.pinned (OpenSpec.ofChange shuffleThenWrong)

/-- 'astragallaw48.HandlesLists': WHATEVER THE INPUT: true; the input reads as it did. -/
def handlesListsSpec : ChangeSpec := { name := "handlesLists", fn := fun _ => fun
  | [d1, d2] => { results := [.lit (.bool true)], args := [d1, d2] }
  | _ => none }
def handlesListsRow : OpenClaim := { program := "ytlaljhjondmecaa", sum := "b6d1eef1715afa50c59e5c06dcdc5ed236fb978b56bcdf585a1bcf3712e89a35", func := "astragal/astragallaw48.HandlesLists", spec := "handlesLists", unfollowed := true, recurses := true, apart := false }
def HandlesListsSaid : Prop := handlesListsRow.holds Try.pinned (OpenSpec.ofChange handlesListsSpec)

/-- ITS FALSE NEIGHBOUR: 'it returns false'. Refute it at one input. -/
def handlesListsWrong : ChangeSpec := { name := "handlesLists", fn := fun _ => fun
  | [d1, d2] => { results := [.lit (.bool false)], args := [d1, d2] }
  | _ => none }
def HandlesListsWrongFalsely : Prop := handlesListsRow.holds Try.pinned (OpenSpec.ofChange handlesListsWrong)

/-- 'astragallaw48.HandlesNone': WHATEVER THE INPUT: true; the input reads as it did. -/
def handlesNoneSpec : ChangeSpec := { name := "handlesNone", fn := fun _ => fun
  | [d1, d2] => { results := [.lit (.bool true)], args := [d1, d2] }
  | _ => none }
def handlesNoneRow : OpenClaim := { program := "ytlaljhjondmecaa", sum := "b6d1eef1715afa50c59e5c06dcdc5ed236fb978b56bcdf585a1bcf3712e89a35", func := "astragal/astragallaw48.HandlesNone", spec := "handlesNone", unfollowed := true, recurses := true, apart := false }
def HandlesNoneSaid : Prop := handlesNoneRow.holds Try.pinned (OpenSpec.ofChange handlesNoneSpec)

/-- ITS FALSE NEIGHBOUR: 'it returns false'. Refute it at one input. -/
def handlesNoneWrong : ChangeSpec := { name := "handlesNone", fn := fun _ => fun
  | [d1, d2] => { results := [.lit (.bool false)], args := [d1, d2] }
  | _ => none }
def HandlesNoneWrongFalsely : Prop := handlesNoneRow.holds Try.pinned (OpenSpec.ofChange handlesNoneWrong)

/-- 'astragallaw42.ReservoirUndoes': WHATEVER THE INPUT: true; the input reads as it did. -/
def reservoirUndoesSpec : ChangeSpec := { name := "reservoirUndoes", fn := fun _ => fun
  | [d1, d2, d3, d4] => { results := [.lit (.bool true)], args := [d1, d2, d3, d4] }
  | _ => none }
def reservoirUndoesRow : OpenClaim := { program := "ytlaljhjondmecaa", sum := "b6d1eef1715afa50c59e5c06dcdc5ed236fb978b56bcdf585a1bcf3712e89a35", func := "astragal/astragallaw42.ReservoirUndoes", spec := "reservoirUndoes", unfollowed := true, recurses := true, apart := false }
def ReservoirUndoesSaid : Prop := reservoirUndoesRow.holds Try.pinned (OpenSpec.ofChange reservoirUndoesSpec)

/-- ITS FALSE NEIGHBOUR: 'it returns false'. Refute it at one input. -/
def reservoirUndoesWrong : ChangeSpec := { name := "reservoirUndoes", fn := fun _ => fun
  | [d1, d2, d3, d4] => { results := [.lit (.bool false)], args := [d1, d2, d3, d4] }
  | _ => none }
def ReservoirUndoesWrongFalsely : Prop := reservoirUndoesRow.holds Try.pinned (OpenSpec.ofChange reservoirUndoesWrong)

/-- 'astragallaw41.SubsetPicks': WHATEVER THE INPUT: true; the input reads as it did. -/
def subsetPicksSpec : ChangeSpec := { name := "subsetPicks", fn := fun _ => fun
  | [d1, d2, d3] => { results := [.lit (.bool true)], args := [d1, d2, d3] }
  | _ => none }
def subsetPicksRow : OpenClaim := { program := "ytlaljhjondmecaa", sum := "b6d1eef1715afa50c59e5c06dcdc5ed236fb978b56bcdf585a1bcf3712e89a35", func := "astragal/astragallaw41.SubsetPicks", spec := "subsetPicks", unfollowed := true, recurses := true, apart := false }
def SubsetPicksSaid : Prop := subsetPicksRow.holds Try.pinned (OpenSpec.ofChange subsetPicksSpec)

/-- ITS FALSE NEIGHBOUR: 'it returns false'. Refute it at one input. -/
def subsetPicksWrong : ChangeSpec := { name := "subsetPicks", fn := fun _ => fun
  | [d1, d2, d3] => { results := [.lit (.bool false)], args := [d1, d2, d3] }
  | _ => none }
def SubsetPicksWrongFalsely : Prop := subsetPicksRow.holds Try.pinned (OpenSpec.ofChange subsetPicksWrong)

/-- 'astragallaw41.SubsetOnly': WHATEVER THE INPUT: true; the input reads as it did. -/
def subsetOnlySpec : ChangeSpec := { name := "subsetOnly", fn := fun _ => fun
  | [d1, d2] => { results := [.lit (.bool true)], args := [d1, d2] }
  | _ => none }
def subsetOnlyRow : OpenClaim := { program := "ytlaljhjondmecaa", sum := "b6d1eef1715afa50c59e5c06dcdc5ed236fb978b56bcdf585a1bcf3712e89a35", func := "astragal/astragallaw41.SubsetOnly", spec := "subsetOnly", unfollowed := true, recurses := true, apart := false }
def SubsetOnlySaid : Prop := subsetOnlyRow.holds Try.pinned (OpenSpec.ofChange subsetOnlySpec)

/-- ITS FALSE NEIGHBOUR: 'it returns false'. Refute it at one input. -/
def subsetOnlyWrong : ChangeSpec := { name := "subsetOnly", fn := fun _ => fun
  | [d1, d2] => { results := [.lit (.bool false)], args := [d1, d2] }
  | _ => none }
def SubsetOnlyWrongFalsely : Prop := subsetOnlyRow.holds Try.pinned (OpenSpec.ofChange subsetOnlyWrong)

/-- 'astragallaw42.ReservoirTurns': WHATEVER THE INPUT: true; the input reads as it did. -/
def reservoirTurnsSpec : ChangeSpec := { name := "reservoirTurns", fn := fun _ => fun
  | [d1, d2, d3, d4] => { results := [.lit (.bool true)], args := [d1, d2, d3, d4] }
  | _ => none }
def reservoirTurnsRow : OpenClaim := { program := "ytlaljhjondmecaa", sum := "b6d1eef1715afa50c59e5c06dcdc5ed236fb978b56bcdf585a1bcf3712e89a35", func := "astragal/astragallaw42.ReservoirTurns", spec := "reservoirTurns", unfollowed := true, recurses := true, apart := false }
def ReservoirTurnsSaid : Prop := reservoirTurnsRow.holds Try.pinned (OpenSpec.ofChange reservoirTurnsSpec)

/-- ITS FALSE NEIGHBOUR: 'it returns false'. Refute it at one input. -/
def reservoirTurnsWrong : ChangeSpec := { name := "reservoirTurns", fn := fun _ => fun
  | [d1, d2, d3, d4] => { results := [.lit (.bool false)], args := [d1, d2, d3, d4] }
  | _ => none }
def ReservoirTurnsWrongFalsely : Prop := reservoirTurnsRow.holds Try.pinned (OpenSpec.ofChange reservoirTurnsWrong)

/- THE SECOND FORM. 'bulk': how many values and letters a reading holds, each counted each time it is reached (what is shared counts as often as it is met; a slice's spare places count too). A statement '..UptoSaid' is the law's where the arguments, and the package variables that the reading takes, are together of bulk at most 1048576: NARROWER than '..Said'. Prove '..Said' where nothing that the law and all that it calls make is longer than what came in: it says more and counts as full. Else prove '..UptoSaid'. A law counts once. -/
mutual
def uptoBulk {H : Type} : DataW H → Nat
  | .lit (.string bytes) => bytes.length + 1
  | .lit _ => 1
  | .nil => 1
  | .ptr d => uptoBulk d + 1
  | .slice elems spare => uptoBulkAll elems + uptoBulkAll spare + 1
  | .agg parts => uptoBulkAll parts + 1
  | .iface _ d => uptoBulk d + 1
  | .map entries => uptoBulkEntries entries + 1
  | .held _ => 1
def uptoBulkAll {H : Type} : List (DataW H) → Nat
  | [] => 0
  | d :: r => uptoBulk d + uptoBulkAll r
def uptoBulkEntries {H : Type} : List (Lit × DataW H) → Nat
  | [] => 0
  | x :: r => uptoBulkEntry x + uptoBulkEntries r
def uptoBulkEntry {H : Type} : Lit × DataW H → Nat
  | (.string bytes, d) => bytes.length + uptoBulk d + 1
  | (_, d) => uptoBulk d + 1
 end
def uptoSmall : (H : Type) → List (DataW H) → Bool := fun _ ds => decide (uptoBulkAll ds ≤ 1048576)
def OpenSpec.upto (s : _root_.Go.ChangeSpec) : _root_.Go.OpenSpec := { _root_.Go.OpenSpec.ofChange s with cond := some uptoSmall }

/-- 'astragallaw37.TapeTells', WHERE WHAT IT READS IS OF BULK AT MOST 1048576: true; the input reads as it did. -/
def tapeTellsUptoRow : OpenClaim := { program := "ytlaljhjondmecaa", sum := "b6d1eef1715afa50c59e5c06dcdc5ed236fb978b56bcdf585a1bcf3712e89a35", func := "astragal/astragallaw37.TapeTells", spec := "tapeTells", unfollowed := true, recurses := true, apart := false, narrowed := true }
def TapeTellsUptoSaid : Prop := tapeTellsUptoRow.holds Try.pinned (OpenSpec.upto tapeTellsSpec)

/-- 'astragallaw48.HandlesOnce', WHERE WHAT IT READS IS OF BULK AT MOST 1048576: true; the input reads as it did. -/
def handlesOnceUptoRow : OpenClaim := { program := "ytlaljhjondmecaa", sum := "b6d1eef1715afa50c59e5c06dcdc5ed236fb978b56bcdf585a1bcf3712e89a35", func := "astragal/astragallaw48.HandlesOnce", spec := "handlesOnce", unfollowed := true, recurses := true, apart := false, narrowed := true }
def HandlesOnceUptoSaid : Prop := handlesOnceUptoRow.holds Try.pinned (OpenSpec.upto handlesOnceSpec)

/-- 'astragallaw42.ReservoirSlots', WHERE WHAT IT READS IS OF BULK AT MOST 1048576: true; the input reads as it did. -/
def reservoirSlotsUptoRow : OpenClaim := { program := "ytlaljhjondmecaa", sum := "b6d1eef1715afa50c59e5c06dcdc5ed236fb978b56bcdf585a1bcf3712e89a35", func := "astragal/astragallaw42.ReservoirSlots", spec := "reservoirSlots", unfollowed := true, recurses := true, apart := false, narrowed := true }
def ReservoirSlotsUptoSaid : Prop := reservoirSlotsUptoRow.holds Try.pinned (OpenSpec.upto reservoirSlotsSpec)

/-- 'astragallaw40.ShuffleOrders', WHERE WHAT IT READS IS OF BULK AT MOST 1048576: true; the input reads as it did. -/
def shuffleOrdersUptoRow : OpenClaim := { program := "ytlaljhjondmecaa", sum := "b6d1eef1715afa50c59e5c06dcdc5ed236fb978b56bcdf585a1bcf3712e89a35", func := "astragal/astragallaw40.ShuffleOrders", spec := "shuffleOrders", recurses := true, apart := false, narrowed := true }
def ShuffleOrdersUptoSaid : Prop := shuffleOrdersUptoRow.holds Try.pinned (OpenSpec.upto shuffleOrdersSpec)

/-- 'astragallaw40.ShuffleOnly', WHERE WHAT IT READS IS OF BULK AT MOST 1048576: true; the input reads as it did. -/
def shuffleOnlyUptoRow : OpenClaim := { program := "ytlaljhjondmecaa", sum := "b6d1eef1715afa50c59e5c06dcdc5ed236fb978b56bcdf585a1bcf3712e89a35", func := "astragal/astragallaw40.ShuffleOnly", spec := "shuffleOnly", recurses := true, apart := false, narrowed := true }
def ShuffleOnlyUptoSaid : Prop := shuffleOnlyUptoRow.holds Try.pinned (OpenSpec.upto shuffleOnlySpec)

/-- 'astragallaw40.ShuffleThen', WHERE WHAT IT READS IS OF BULK AT MOST 1048576: true; the input reads as it did. -/
def shuffleThenUptoRow : OpenClaim := { program := "ytlaljhjondmecaa", sum := "b6d1eef1715afa50c59e5c06dcdc5ed236fb978b56bcdf585a1bcf3712e89a35", func := "astragal/astragallaw40.ShuffleThen", spec := "shuffleThen", unfollowed := true, recurses := true, apart := false, narrowed := true }
def ShuffleThenUptoSaid : Prop := shuffleThenUptoRow.holds Try.pinned (OpenSpec.upto shuffleThenSpec)

/-- 'astragallaw48.HandlesLists', WHERE WHAT IT READS IS OF BULK AT MOST 1048576: true; the input reads as it did. -/
def handlesListsUptoRow : OpenClaim := { program := "ytlaljhjondmecaa", sum := "b6d1eef1715afa50c59e5c06dcdc5ed236fb978b56bcdf585a1bcf3712e89a35", func := "astragal/astragallaw48.HandlesLists", spec := "handlesLists", unfollowed := true, recurses := true, apart := false, narrowed := true }
def HandlesListsUptoSaid : Prop := handlesListsUptoRow.holds Try.pinned (OpenSpec.upto handlesListsSpec)

/-- 'astragallaw48.HandlesNone', WHERE WHAT IT READS IS OF BULK AT MOST 1048576: true; the input reads as it did. -/
def handlesNoneUptoRow : OpenClaim := { program := "ytlaljhjondmecaa", sum := "b6d1eef1715afa50c59e5c06dcdc5ed236fb978b56bcdf585a1bcf3712e89a35", func := "astragal/astragallaw48.HandlesNone", spec := "handlesNone", unfollowed := true, recurses := true, apart := false, narrowed := true }
def HandlesNoneUptoSaid : Prop := handlesNoneUptoRow.holds Try.pinned (OpenSpec.upto handlesNoneSpec)

/-- 'astragallaw42.ReservoirUndoes', WHERE WHAT IT READS IS OF BULK AT MOST 1048576: true; the input reads as it did. -/
def reservoirUndoesUptoRow : OpenClaim := { program := "ytlaljhjondmecaa", sum := "b6d1eef1715afa50c59e5c06dcdc5ed236fb978b56bcdf585a1bcf3712e89a35", func := "astragal/astragallaw42.ReservoirUndoes", spec := "reservoirUndoes", unfollowed := true, recurses := true, apart := false, narrowed := true }
def ReservoirUndoesUptoSaid : Prop := reservoirUndoesUptoRow.holds Try.pinned (OpenSpec.upto reservoirUndoesSpec)

/-- 'astragallaw41.SubsetPicks', WHERE WHAT IT READS IS OF BULK AT MOST 1048576: true; the input reads as it did. -/
def subsetPicksUptoRow : OpenClaim := { program := "ytlaljhjondmecaa", sum := "b6d1eef1715afa50c59e5c06dcdc5ed236fb978b56bcdf585a1bcf3712e89a35", func := "astragal/astragallaw41.SubsetPicks", spec := "subsetPicks", unfollowed := true, recurses := true, apart := false, narrowed := true }
def SubsetPicksUptoSaid : Prop := subsetPicksUptoRow.holds Try.pinned (OpenSpec.upto subsetPicksSpec)

/-- 'astragallaw41.SubsetOnly', WHERE WHAT IT READS IS OF BULK AT MOST 1048576: true; the input reads as it did. -/
def subsetOnlyUptoRow : OpenClaim := { program := "ytlaljhjondmecaa", sum := "b6d1eef1715afa50c59e5c06dcdc5ed236fb978b56bcdf585a1bcf3712e89a35", func := "astragal/astragallaw41.SubsetOnly", spec := "subsetOnly", unfollowed := true, recurses := true, apart := false, narrowed := true }
def SubsetOnlyUptoSaid : Prop := subsetOnlyUptoRow.holds Try.pinned (OpenSpec.upto subsetOnlySpec)

/-- 'astragallaw42.ReservoirTurns', WHERE WHAT IT READS IS OF BULK AT MOST 1048576: true; the input reads as it did. -/
def reservoirTurnsUptoRow : OpenClaim := { program := "ytlaljhjondmecaa", sum := "b6d1eef1715afa50c59e5c06dcdc5ed236fb978b56bcdf585a1bcf3712e89a35", func := "astragal/astragallaw42.ReservoirTurns", spec := "reservoirTurns", unfollowed := true, recurses := true, apart := false, narrowed := true }
def ReservoirTurnsUptoSaid : Prop := reservoirTurnsUptoRow.holds Try.pinned (OpenSpec.upto reservoirTurnsSpec)

end Rows
end Go.Proofs.Ytlaljhjondmecaa
