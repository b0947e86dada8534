/-
  No cell of these rows narrows 'for every input' (looked for: loops, veiled, ifaces, maps, wideKeys, modest, calm, conditions, laid).
  DERIVED. THE GIVEN ROWS OF THIS SEAT. 6 by the template 'for every input the law returns true; each argument reads behind the call as it read before'; 0 by the template 'total and deterministic' (their statements: YtdhlcbhpjejljaaTotals.lean).
  GIVEN WITH THE SEED: the statements are not yours to turn. If you find one false, say at which input.
  Laid BY PROGRAM, IN A SANDBOX (cutbox-rows.mjs): the forced cells as the released guide's own fill.sh prints them over the translation 719cdc1ee2807143… (all of the seat's roots in one cut). By AI agents, Wed Nov 11 2026. No macro, syntax, notation, axiom, sorry.
-/
import Derived.Test.YtdhlcbhpjejljaaChecked
import GoSem.Claim
import GoSem.ClaimJoined
import GoSem.ClaimMapViews
import Derived.JoinedTies
import Derived.KernelRfl
namespace Go.Proofs.Ytdhlcbhpjejljaa
/- THE CELL 'sum', in the pinned program and in every row, IS THE sha256 OF THE DUMP (.gsa) THAT YtdhlcbhpjejljaaProg.lean LOADS. Nothing in Lean hashes anything: it is a label: what it is worth is what the hold of that sum in a sandbox is worth. -/
noncomputable def Try.pinned : Pinned := { name := "ytdhlcbhpjejljaa", sum := "719cdc1ee28071432b46b1c5a13564047ed16cd2ff5faa73d1e23cfa939b7778", checked := Try.checked }
namespace Rows
def none {H : Type} : Left H := { results := [], args := [] }

/-- 'bushellaw14.AggJoins': WHATEVER THE INPUT: true; the input reads as it did. -/
def aggJoinsSpec : ChangeSpec := { name := "aggJoins", fn := fun _ => fun
  | [d1, d2] => { results := [.lit (.bool true)], args := [d1, d2] }
  | _ => none }
def aggJoinsRow : OpenClaim := { program := "ytdhlcbhpjejljaa", sum := "719cdc1ee28071432b46b1c5a13564047ed16cd2ff5faa73d1e23cfa939b7778", func := "bushel/bushellaw14.AggJoins", spec := "aggJoins", inPlace := ["math.Float64bits", "math.Float64frombits"], recurses := true, apart := false }
def AggJoinsSaid : Prop := aggJoinsRow.holds Try.pinned (OpenSpec.ofChange aggJoinsSpec)

/-- ITS FALSE NEIGHBOUR: 'it returns false'. Refute it at one input. -/
def aggJoinsWrong : ChangeSpec := { name := "aggJoins", fn := fun _ => fun
  | [d1, d2] => { results := [.lit (.bool false)], args := [d1, d2] }
  | _ => none }
def AggJoinsWrongFalsely : Prop := aggJoinsRow.holds Try.pinned (OpenSpec.ofChange aggJoinsWrong)

/-- 'bushellaw14.AggOrders': WHATEVER THE INPUT: true; the input reads as it did. -/
def aggOrdersSpec : ChangeSpec := { name := "aggOrders", fn := fun _ => fun
  | [d1, d2, d3] => { results := [.lit (.bool true)], args := [d1, d2, d3] }
  | _ => none }
def aggOrdersRow : OpenClaim := { program := "ytdhlcbhpjejljaa", sum := "719cdc1ee28071432b46b1c5a13564047ed16cd2ff5faa73d1e23cfa939b7778", func := "bushel/bushellaw14.AggOrders", spec := "aggOrders", inPlace := ["math.Float64bits", "math.Float64frombits"], apart := false }
def AggOrdersSaid : Prop := aggOrdersRow.holds Try.pinned (OpenSpec.ofChange aggOrdersSpec)

/-- ITS FALSE NEIGHBOUR: 'it returns false'. Refute it at one input. -/
def aggOrdersWrong : ChangeSpec := { name := "aggOrders", fn := fun _ => fun
  | [d1, d2, d3] => { results := [.lit (.bool false)], args := [d1, d2, d3] }
  | _ => none }
def AggOrdersWrongFalsely : Prop := aggOrdersRow.holds Try.pinned (OpenSpec.ofChange aggOrdersWrong)

/-- 'bushellaw14.AggOnes': WHATEVER THE INPUT: true; the input reads as it did. -/
def aggOnesSpec : ChangeSpec := { name := "aggOnes", fn := fun _ => fun
  | [d1, d2, d3] => { results := [.lit (.bool true)], args := [d1, d2, d3] }
  | _ => none }
def aggOnesRow : OpenClaim := { program := "ytdhlcbhpjejljaa", sum := "719cdc1ee28071432b46b1c5a13564047ed16cd2ff5faa73d1e23cfa939b7778", func := "bushel/bushellaw14.AggOnes", spec := "aggOnes", inPlace := ["math.Float64bits", "math.Float64frombits"], recurses := true, apart := false }
def AggOnesSaid : Prop := aggOnesRow.holds Try.pinned (OpenSpec.ofChange aggOnesSpec)

/-- ITS FALSE NEIGHBOUR: 'it returns false'. Refute it at one input. -/
def aggOnesWrong : ChangeSpec := { name := "aggOnes", fn := fun _ => fun
  | [d1, d2, d3] => { results := [.lit (.bool false)], args := [d1, d2, d3] }
  | _ => none }
def AggOnesWrongFalsely : Prop := aggOnesRow.holds Try.pinned (OpenSpec.ofChange aggOnesWrong)

/-- 'bushellaw15.CellsTwice': WHATEVER THE INPUT: true; the input reads as it did. -/
def cellsTwiceSpec : ChangeSpec := { name := "cellsTwice", fn := fun _ => fun
  | [d1, d2, d3] => { results := [.lit (.bool true)], args := [d1, d2, d3] }
  | _ => none }
def cellsTwiceRow : OpenClaim := { program := "ytdhlcbhpjejljaa", sum := "719cdc1ee28071432b46b1c5a13564047ed16cd2ff5faa73d1e23cfa939b7778", func := "bushel/bushellaw15.CellsTwice", spec := "cellsTwice", inPlace := ["math.Float64bits", "math.Float64frombits"], unfollowed := true, recurses := true, apart := false }
def CellsTwiceSaid : Prop := cellsTwiceRow.holds Try.pinned (OpenSpec.ofChange cellsTwiceSpec)

/-- ITS FALSE NEIGHBOUR: 'it returns false'. Refute it at one input. -/
def cellsTwiceWrong : ChangeSpec := { name := "cellsTwice", fn := fun _ => fun
  | [d1, d2, d3] => { results := [.lit (.bool false)], args := [d1, d2, d3] }
  | _ => none }
def CellsTwiceWrongFalsely : Prop := cellsTwiceRow.holds Try.pinned (OpenSpec.ofChange cellsTwiceWrong)

/-- 'bushellaw15.CellsParts': WHATEVER THE INPUT: true; the input reads as it did. -/
def cellsPartsSpec : ChangeSpec := { name := "cellsParts", fn := fun _ => fun
  | [d1, d2, d3] => { results := [.lit (.bool true)], args := [d1, d2, d3] }
  | _ => none }
def cellsPartsRow : OpenClaim := { program := "ytdhlcbhpjejljaa", sum := "719cdc1ee28071432b46b1c5a13564047ed16cd2ff5faa73d1e23cfa939b7778", func := "bushel/bushellaw15.CellsParts", spec := "cellsParts", inPlace := ["math.Float64bits", "math.Float64frombits"], unfollowed := true, recurses := true, apart := false }
def CellsPartsSaid : Prop := cellsPartsRow.holds Try.pinned (OpenSpec.ofChange cellsPartsSpec)

/-- ITS FALSE NEIGHBOUR: 'it returns false'. Refute it at one input. -/
def cellsPartsWrong : ChangeSpec := { name := "cellsParts", fn := fun _ => fun
  | [d1, d2, d3] => { results := [.lit (.bool false)], args := [d1, d2, d3] }
  | _ => none }
def CellsPartsWrongFalsely : Prop := cellsPartsRow.holds Try.pinned (OpenSpec.ofChange cellsPartsWrong)

/-- 'bushellaw15.CellsBoth': WHATEVER THE INPUT: true; the input reads as it did. -/
def cellsBothSpec : ChangeSpec := { name := "cellsBoth", fn := fun _ => fun
  | [d1, d2, d3] => { results := [.lit (.bool true)], args := [d1, d2, d3] }
  | _ => none }
def cellsBothRow : OpenClaim := { program := "ytdhlcbhpjejljaa", sum := "719cdc1ee28071432b46b1c5a13564047ed16cd2ff5faa73d1e23cfa939b7778", func := "bushel/bushellaw15.CellsBoth", spec := "cellsBoth", inPlace := ["math.Float64bits", "math.Float64frombits"], unfollowed := true, recurses := true, apart := false }
def CellsBothSaid : Prop := cellsBothRow.holds Try.pinned (OpenSpec.ofChange cellsBothSpec)

/-- ITS FALSE NEIGHBOUR: 'it returns false'. Refute it at one input. -/
def cellsBothWrong : ChangeSpec := { name := "cellsBoth", fn := fun _ => fun
  | [d1, d2, d3] => { results := [.lit (.bool false)], args := [d1, d2, d3] }
  | _ => none }
def CellsBothWrongFalsely : Prop := cellsBothRow.holds Try.pinned (OpenSpec.ofChange cellsBothWrong)

/- THE SECOND FORM. 'bulk': how many values and letters a reading holds, each counted each time it is reached (what is shared counts as often as it is met; a slice's spare places count too). A statement '..UptoSaid' is the law's where the arguments, and the package variables that the reading takes, are together of bulk at most 1048576: NARROWER than '..Said'. Prove '..Said' where nothing that the law and all that it calls make is longer than what came in: it says more and counts as full. Else prove '..UptoSaid'. A law counts once. -/
mutual
def uptoBulk {H : Type} : DataW H → Nat
  | .lit (.string bytes) => bytes.length + 1
  | .lit _ => 1
  | .nil => 1
  | .ptr d => uptoBulk d + 1
  | .slice elems spare => uptoBulkAll elems + uptoBulkAll spare + 1
  | .agg parts => uptoBulkAll parts + 1
  | .iface _ d => uptoBulk d + 1
  | .map entries => uptoBulkEntries entries + 1
  | .held _ => 1
def uptoBulkAll {H : Type} : List (DataW H) → Nat
  | [] => 0
  | d :: r => uptoBulk d + uptoBulkAll r
def uptoBulkEntries {H : Type} : List (Lit × DataW H) → Nat
  | [] => 0
  | x :: r => uptoBulkEntry x + uptoBulkEntries r
def uptoBulkEntry {H : Type} : Lit × DataW H → Nat
  | (.string bytes, d) => bytes.length + uptoBulk d + 1
  | (_, d) => uptoBulk d + 1
 end
def uptoSmall : (H : Type) → List (DataW H) → Bool := fun _ ds => decide (uptoBulkAll ds ≤ 1048576)
def OpenSpec.upto (s : _root_.Go.ChangeSpec) : _root_.Go.OpenSpec := { _root_.Go.OpenSpec.ofChange s with cond := some uptoSmall }

/-- 'bushellaw14.AggJoins', WHERE WHAT IT READS IS OF BULK AT MOST 1048576: true; the input reads as it did. -/
def aggJoinsUptoRow : OpenClaim := { program := "ytdhlcbhpjejljaa", sum := "719cdc1ee28071432b46b1c5a13564047ed16cd2ff5faa73d1e23cfa939b7778", func := "bushel/bushellaw14.AggJoins", spec := "aggJoins", inPlace := ["math.Float64bits", "math.Float64frombits"], recurses := true, apart := false, narrowed := true }
def AggJoinsUptoSaid : Prop := aggJoinsUptoRow.holds Try.pinned (OpenSpec.upto aggJoinsSpec)

/-- 'bushellaw14.AggOrders', WHERE WHAT IT READS IS OF BULK AT MOST 1048576: true; the input reads as it did. -/
def aggOrdersUptoRow : OpenClaim := { program := "ytdhlcbhpjejljaa", sum := "719cdc1ee28071432b46b1c5a13564047ed16cd2ff5faa73d1e23cfa939b7778", func := "bushel/bushellaw14.AggOrders", spec := "aggOrders", inPlace := ["math.Float64bits", "math.Float64frombits"], apart := false, narrowed := true }
def AggOrdersUptoSaid : Prop := aggOrdersUptoRow.holds Try.pinned (OpenSpec.upto aggOrdersSpec)

/-- 'bushellaw14.AggOnes', WHERE WHAT IT READS IS OF BULK AT MOST 1048576: true; the input reads as it did. -/
def aggOnesUptoRow : OpenClaim := { program := "ytdhlcbhpjejljaa", sum := "719cdc1ee28071432b46b1c5a13564047ed16cd2ff5faa73d1e23cfa939b7778", func := "bushel/bushellaw14.AggOnes", spec := "aggOnes", inPlace := ["math.Float64bits", "math.Float64frombits"], recurses := true, apart := false, narrowed := true }
def AggOnesUptoSaid : Prop := aggOnesUptoRow.holds Try.pinned (OpenSpec.upto aggOnesSpec)

/-- 'bushellaw15.CellsTwice', WHERE WHAT IT READS IS OF BULK AT MOST 1048576: true; the input reads as it did. -/
def cellsTwiceUptoRow : OpenClaim := { program := "ytdhlcbhpjejljaa", sum := "719cdc1ee28071432b46b1c5a13564047ed16cd2ff5faa73d1e23cfa939b7778", func := "bushel/bushellaw15.CellsTwice", spec := "cellsTwice", inPlace := ["math.Float64bits", "math.Float64frombits"], unfollowed := true, recurses := true, apart := false, narrowed := true }
def CellsTwiceUptoSaid : Prop := cellsTwiceUptoRow.holds Try.pinned (OpenSpec.upto cellsTwiceSpec)

/-- 'bushellaw15.CellsParts', WHERE WHAT IT READS IS OF BULK AT MOST 1048576: true; the input reads as it did. -/
def cellsPartsUptoRow : OpenClaim := { program := "ytdhlcbhpjejljaa", sum := "719cdc1ee28071432b46b1c5a13564047ed16cd2ff5faa73d1e23cfa939b7778", func := "bushel/bushellaw15.CellsParts", spec := "cellsParts", inPlace := ["math.Float64bits", "math.Float64frombits"], unfollowed := true, recurses := true, apart := false, narrowed := true }
def CellsPartsUptoSaid : Prop := cellsPartsUptoRow.holds Try.pinned (OpenSpec.upto cellsPartsSpec)

/-- 'bushellaw15.CellsBoth', WHERE WHAT IT READS IS OF BULK AT MOST 1048576: true; the input reads as it did. -/
def cellsBothUptoRow : OpenClaim := { program := "ytdhlcbhpjejljaa", sum := "719cdc1ee28071432b46b1c5a13564047ed16cd2ff5faa73d1e23cfa939b7778", func := "bushel/bushellaw15.CellsBoth", spec := "cellsBoth", inPlace := ["math.Float64bits", "math.Float64frombits"], unfollowed := true, recurses := true, apart := false, narrowed := true }
def CellsBothUptoSaid : Prop := cellsBothUptoRow.holds Try.pinned (OpenSpec.upto cellsBothSpec)

end Rows
end Go.Proofs.Ytdhlcbhpjejljaa
