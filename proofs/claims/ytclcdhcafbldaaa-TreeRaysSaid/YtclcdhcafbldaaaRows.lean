/-
  No cell of these rows narrows 'for every input' (looked for: loops, veiled, ifaces, maps, wideKeys, modest, calm, conditions, laid).
  DERIVED. THE GIVEN ROWS OF THIS SEAT. 3 by the template 'for every input the law returns true; each argument reads behind the call as it read before'; 0 by the template 'total and deterministic' (their statements: YtclcdhcafbldaaaTotals.lean).
  GIVEN WITH THE SEED: the statements are not yours to turn. If you find one false, say at which input.
  Laid BY PROGRAM, IN A SANDBOX (cutbox-rows.mjs): the forced cells as the released guide's own fill.sh prints them over the translation 721da3f119d2da70… (all of the seat's roots in one cut). By AI agents, Wed Nov 11 2026. No macro, syntax, notation, axiom, sorry.
-/
import Derived.Test.YtclcdhcafbldaaaChecked
import GoSem.Claim
import GoSem.ClaimJoined
import GoSem.ClaimMapViews
import Derived.JoinedTies
import Derived.KernelRfl
namespace Go.Proofs.Ytclcdhcafbldaaa
/- THE CELL 'sum', in the pinned program and in every row, IS THE sha256 OF THE DUMP (.gsa) THAT YtclcdhcafbldaaaProg.lean LOADS. Nothing in Lean hashes anything: it is a label: what it is worth is what the hold of that sum in a sandbox is worth. -/
noncomputable def Try.pinned : Pinned := { name := "ytclcdhcafbldaaa", sum := "721da3f119d2da70783a78537780d8c3525cce1d5626707112a02c0dbb4ed94e", checked := Try.checked }
namespace Rows
def none {H : Type} : Left H := { results := [], args := [] }

/-- 'tumblelaw15.TreeHolds': WHATEVER THE INPUT: true; the input reads as it did. -/
def treeHoldsSpec : ChangeSpec := { name := "treeHolds", fn := fun _ => fun
  | [d1, d2, d3, d4] => { results := [.lit (.bool true)], args := [d1, d2, d3, d4] }
  | _ => none }
def treeHoldsRow : OpenClaim := { program := "ytclcdhcafbldaaa", sum := "721da3f119d2da70783a78537780d8c3525cce1d5626707112a02c0dbb4ed94e", func := "tumble/tumblelaw15.TreeHolds", spec := "treeHolds", inPlace := ["math.Float64frombits"], unfollowed := true, recurses := true, apart := false }
def TreeHoldsSaid : Prop := treeHoldsRow.holds Try.pinned (OpenSpec.ofChange treeHoldsSpec)

/-- ITS FALSE NEIGHBOUR: 'it returns false'. Refute it at one input. -/
def treeHoldsWrong : ChangeSpec := { name := "treeHolds", fn := fun _ => fun
  | [d1, d2, d3, d4] => { results := [.lit (.bool false)], args := [d1, d2, d3, d4] }
  | _ => none }
def TreeHoldsWrongFalsely : Prop := treeHoldsRow.holds Try.pinned (OpenSpec.ofChange treeHoldsWrong)

/-- 'tumblelaw15.TreeTrace': WHATEVER THE INPUT: true; the input reads as it did. -/
def treeTraceSpec : ChangeSpec := { name := "treeTrace", fn := fun _ => fun
  | [d1, d2, d3, d4, d5] => { results := [.lit (.bool true)], args := [d1, d2, d3, d4, d5] }
  | _ => none }
def treeTraceRow : OpenClaim := { program := "ytclcdhcafbldaaa", sum := "721da3f119d2da70783a78537780d8c3525cce1d5626707112a02c0dbb4ed94e", func := "tumble/tumblelaw15.TreeTrace", spec := "treeTrace", inPlace := ["math.Float64frombits", "math.Float64bits"], unfollowed := true, recurses := true, apart := false }
def TreeTraceSaid : Prop := treeTraceRow.holds Try.pinned (OpenSpec.ofChange treeTraceSpec)

/-- ITS FALSE NEIGHBOUR: 'it returns false'. Refute it at one input. -/
def treeTraceWrong : ChangeSpec := { name := "treeTrace", fn := fun _ => fun
  | [d1, d2, d3, d4, d5] => { results := [.lit (.bool false)], args := [d1, d2, d3, d4, d5] }
  | _ => none }
def TreeTraceWrongFalsely : Prop := treeTraceRow.holds Try.pinned (OpenSpec.ofChange treeTraceWrong)

/-- 'tumblelaw15.TreeRays': WHATEVER THE INPUT: true; the input reads as it did. -/
def treeRaysSpec : ChangeSpec := { name := "treeRays", fn := fun _ => fun
  | [d1, d2, d3, d4, d5] => { results := [.lit (.bool true)], args := [d1, d2, d3, d4, d5] }
  | _ => none }
def treeRaysRow : OpenClaim := { program := "ytclcdhcafbldaaa", sum := "721da3f119d2da70783a78537780d8c3525cce1d5626707112a02c0dbb4ed94e", func := "tumble/tumblelaw15.TreeRays", spec := "treeRays", inPlace := ["math.Float64frombits", "math.Float64bits"], unfollowed := true, recurses := true, apart := false }
def TreeRaysSaid : Prop := treeRaysRow.holds Try.pinned (OpenSpec.ofChange treeRaysSpec)

/-- ITS FALSE NEIGHBOUR: 'it returns false'. Refute it at one input. -/
def treeRaysWrong : ChangeSpec := { name := "treeRays", fn := fun _ => fun
  | [d1, d2, d3, d4, d5] => { results := [.lit (.bool false)], args := [d1, d2, d3, d4, d5] }
  | _ => none }
def TreeRaysWrongFalsely : Prop := treeRaysRow.holds Try.pinned (OpenSpec.ofChange treeRaysWrong)

/- THE SECOND FORM. 'bulk': how many values and letters a reading holds, each counted each time it is reached (what is shared counts as often as it is met; a slice's spare places count too). A statement '..UptoSaid' is the law's where the arguments, and the package variables that the reading takes, are together of bulk at most 1048576: NARROWER than '..Said'. Prove '..Said' where nothing that the law and all that it calls make is longer than what came in: it says more and counts as full. Else prove '..UptoSaid'. A law counts once. -/
mutual
def uptoBulk {H : Type} : DataW H → Nat
  | .lit (.string bytes) => bytes.length + 1
  | .lit _ => 1
  | .nil => 1
  | .ptr d => uptoBulk d + 1
  | .slice elems spare => uptoBulkAll elems + uptoBulkAll spare + 1
  | .agg parts => uptoBulkAll parts + 1
  | .iface _ d => uptoBulk d + 1
  | .map entries => uptoBulkEntries entries + 1
  | .held _ => 1
def uptoBulkAll {H : Type} : List (DataW H) → Nat
  | [] => 0
  | d :: r => uptoBulk d + uptoBulkAll r
def uptoBulkEntries {H : Type} : List (Lit × DataW H) → Nat
  | [] => 0
  | x :: r => uptoBulkEntry x + uptoBulkEntries r
def uptoBulkEntry {H : Type} : Lit × DataW H → Nat
  | (.string bytes, d) => bytes.length + uptoBulk d + 1
  | (_, d) => uptoBulk d + 1
 end
def uptoSmall : (H : Type) → List (DataW H) → Bool := fun _ ds => decide (uptoBulkAll ds ≤ 1048576)
def OpenSpec.upto (s : _root_.Go.ChangeSpec) : _root_.Go.OpenSpec := { _root_.Go.OpenSpec.ofChange s with cond := some uptoSmall }

/-- 'tumblelaw15.TreeHolds', WHERE WHAT IT READS IS OF BULK AT MOST 1048576: true; the input reads as it did. -/
def treeHoldsUptoRow : OpenClaim := { program := "ytclcdhcafbldaaa", sum := "721da3f119d2da70783a78537780d8c3525cce1d5626707112a02c0dbb4ed94e", func := "tumble/tumblelaw15.TreeHolds", spec := "treeHolds", inPlace := ["math.Float64frombits"], unfollowed := true, recurses := true, apart := false, narrowed := true }
def TreeHoldsUptoSaid : Prop := treeHoldsUptoRow.holds Try.pinned (OpenSpec.upto treeHoldsSpec)

/-- 'tumblelaw15.TreeTrace', WHERE WHAT IT READS IS OF BULK AT MOST 1048576: true; the input reads as it did. -/
def treeTraceUptoRow : OpenClaim := { program := "ytclcdhcafbldaaa", sum := "721da3f119d2da70783a78537780d8c3525cce1d5626707112a02c0dbb4ed94e", func := "tumble/tumblelaw15.TreeTrace", spec := "treeTrace", inPlace := ["math.Float64frombits", "math.Float64bits"], unfollowed := true, recurses := true, apart := false, narrowed := true }
def TreeTraceUptoSaid : Prop := treeTraceUptoRow.holds Try.pinned (OpenSpec.upto treeTraceSpec)

/-- 'tumblelaw15.TreeRays', WHERE WHAT IT READS IS OF BULK AT MOST 1048576: true; the input reads as it did. -/
def treeRaysUptoRow : OpenClaim := { program := "ytclcdhcafbldaaa", sum := "721da3f119d2da70783a78537780d8c3525cce1d5626707112a02c0dbb4ed94e", func := "tumble/tumblelaw15.TreeRays", spec := "treeRays", inPlace := ["math.Float64frombits", "math.Float64bits"], unfollowed := true, recurses := true, apart := false, narrowed := true }
def TreeRaysUptoSaid : Prop := treeRaysUptoRow.holds Try.pinned (OpenSpec.upto treeRaysSpec)

end Rows
end Go.Proofs.Ytclcdhcafbldaaa
