/-
  No cell of these rows narrows 'for every input' (looked for: loops, veiled, ifaces, maps, wideKeys, modest, calm, conditions, laid).
  DERIVED. THE GIVEN ROWS OF THIS SEAT. 3 by the template 'for every input the law returns true; each argument reads behind the call as it read before'; 0 by the template 'total and deterministic' (their statements: YtfilngbedlkhjaaTotals.lean).
  GIVEN WITH THE SEED: the statements are not yours to turn. If you find one false, say at which input.
  Laid BY PROGRAM, IN A SANDBOX (cutbox-rows.mjs): the forced cells as the released guide's own fill.sh prints them over the translation 877b3b82d098cf19… (all of the seat's roots in one cut). By AI agents, Wed Nov 11 2026. No macro, syntax, notation, axiom, sorry.
-/
import Derived.Test.YtfilngbedlkhjaaChecked
import GoSem.Claim
import GoSem.ClaimJoined
import GoSem.ClaimMapViews
import Derived.JoinedTies
import Derived.KernelRfl
namespace Go.Proofs.Ytfilngbedlkhjaa
/- THE CELL 'sum', in the pinned program and in every row, IS THE sha256 OF THE DUMP (.gsa) THAT YtfilngbedlkhjaaProg.lean LOADS. Nothing in Lean hashes anything: it is a label: what it is worth is what the hold of that sum in a sandbox is worth. -/
noncomputable def Try.pinned : Pinned := { name := "ytfilngbedlkhjaa", sum := "877b3b82d098cf19c8a67faf9ab83ec2c810c9f010d7e528db18b87028d2f21f", checked := Try.checked }
namespace Rows
def none {H : Type} : Left H := { results := [], args := [] }

/-- 'relaylaw18.SnapOlder': WHATEVER THE INPUT: true; the input reads as it did. -/
def snapOlderSpec : ChangeSpec := { name := "snapOlder", fn := fun _ => fun
  | [d] => { results := [.lit (.bool true)], args := [d] }
  | _ => none }
def snapOlderRow : OpenClaim := { program := "ytfilngbedlkhjaa", sum := "877b3b82d098cf19c8a67faf9ab83ec2c810c9f010d7e528db18b87028d2f21f", func := "relay/relaylaw18.SnapOlder", spec := "snapOlder", apart := false }
def SnapOlderSaid : Prop := snapOlderRow.holds Try.pinned (OpenSpec.ofChange snapOlderSpec)

/-- ITS FALSE NEIGHBOUR: 'it returns false'. Refute it at one input. -/
def snapOlderWrong : ChangeSpec := { name := "snapOlder", fn := fun _ => fun
  | [d] => { results := [.lit (.bool false)], args := [d] }
  | _ => none }
def SnapOlderWrongFalsely : Prop := snapOlderRow.holds Try.pinned (OpenSpec.ofChange snapOlderWrong)

/-- 'relaylaw18.SnapPuts': WHATEVER THE INPUT: true; the input reads as it did. -/
def snapPutsSpec : ChangeSpec := { name := "snapPuts", fn := fun _ => fun
  | [d1, d2] => { results := [.lit (.bool true)], args := [d1, d2] }
  | _ => none }
def snapPutsRow : OpenClaim := { program := "ytfilngbedlkhjaa", sum := "877b3b82d098cf19c8a67faf9ab83ec2c810c9f010d7e528db18b87028d2f21f", func := "relay/relaylaw18.SnapPuts", spec := "snapPuts", apart := false }
def SnapPutsSaid : Prop := snapPutsRow.holds Try.pinned (OpenSpec.ofChange snapPutsSpec)

/-- ITS FALSE NEIGHBOUR: 'it returns false'. Refute it at one input. -/
def snapPutsWrong : ChangeSpec := { name := "snapPuts", fn := fun _ => fun
  | [d1, d2] => { results := [.lit (.bool false)], args := [d1, d2] }
  | _ => none }
def SnapPutsWrongFalsely : Prop := snapPutsRow.holds Try.pinned (OpenSpec.ofChange snapPutsWrong)

/-- 'relaylaw18.SnapCuts': WHATEVER THE INPUT: true; the input reads as it did. -/
def snapCutsSpec : ChangeSpec := { name := "snapCuts", fn := fun _ => fun
  | [d1, d2, d3] => { results := [.lit (.bool true)], args := [d1, d2, d3] }
  | _ => none }
def snapCutsRow : OpenClaim := { program := "ytfilngbedlkhjaa", sum := "877b3b82d098cf19c8a67faf9ab83ec2c810c9f010d7e528db18b87028d2f21f", func := "relay/relaylaw18.SnapCuts", spec := "snapCuts", apart := false }
def SnapCutsSaid : Prop := snapCutsRow.holds Try.pinned (OpenSpec.ofChange snapCutsSpec)

/-- ITS FALSE NEIGHBOUR: 'it returns false'. Refute it at one input. -/
def snapCutsWrong : ChangeSpec := { name := "snapCuts", fn := fun _ => fun
  | [d1, d2, d3] => { results := [.lit (.bool false)], args := [d1, d2, d3] }
  | _ => none }
def SnapCutsWrongFalsely : Prop := snapCutsRow.holds Try.pinned (OpenSpec.ofChange snapCutsWrong)

/- THE SECOND FORM. 'bulk': how many values and letters a reading holds, each counted each time it is reached (what is shared counts as often as it is met; a slice's spare places count too). A statement '..UptoSaid' is the law's where the arguments, and the package variables that the reading takes, are together of bulk at most 1048576: NARROWER than '..Said'. Prove '..Said' where nothing that the law and all that it calls make is longer than what came in: it says more and counts as full. Else prove '..UptoSaid'. A law counts once. -/
mutual
def uptoBulk {H : Type} : DataW H → Nat
  | .lit (.string bytes) => bytes.length + 1
  | .lit _ => 1
  | .nil => 1
  | .ptr d => uptoBulk d + 1
  | .slice elems spare => uptoBulkAll elems + uptoBulkAll spare + 1
  | .agg parts => uptoBulkAll parts + 1
  | .iface _ d => uptoBulk d + 1
  | .map entries => uptoBulkEntries entries + 1
  | .held _ => 1
def uptoBulkAll {H : Type} : List (DataW H) → Nat
  | [] => 0
  | d :: r => uptoBulk d + uptoBulkAll r
def uptoBulkEntries {H : Type} : List (Lit × DataW H) → Nat
  | [] => 0
  | x :: r => uptoBulkEntry x + uptoBulkEntries r
def uptoBulkEntry {H : Type} : Lit × DataW H → Nat
  | (.string bytes, d) => bytes.length + uptoBulk d + 1
  | (_, d) => uptoBulk d + 1
 end
def uptoSmall : (H : Type) → List (DataW H) → Bool := fun _ ds => decide (uptoBulkAll ds ≤ 1048576)
def OpenSpec.upto (s : _root_.Go.ChangeSpec) : _root_.Go.OpenSpec := { _root_.Go.OpenSpec.ofChange s with cond := some uptoSmall }

/-- 'relaylaw18.SnapOlder', WHERE WHAT IT READS IS OF BULK AT MOST 1048576: true; the input reads as it did. -/
def snapOlderUptoRow : OpenClaim := { program := "ytfilngbedlkhjaa", sum := "877b3b82d098cf19c8a67faf9ab83ec2c810c9f010d7e528db18b87028d2f21f", func := "relay/relaylaw18.SnapOlder", spec := "snapOlder", apart := false, narrowed := true }
def SnapOlderUptoSaid : Prop := snapOlderUptoRow.holds Try.pinned (OpenSpec.upto snapOlderSpec)

/-- 'relaylaw18.SnapPuts', WHERE WHAT IT READS IS OF BULK AT MOST 1048576: true; the input reads as it did. -/
def snapPutsUptoRow : OpenClaim := { program := "ytfilngbedlkhjaa", sum := "877b3b82d098cf19c8a67faf9ab83ec2c810c9f010d7e528db18b87028d2f21f", func := "relay/relaylaw18.SnapPuts", spec := "snapPuts", apart := false, narrowed := true }
def SnapPutsUptoSaid : Prop := snapPutsUptoRow.holds Try.pinned (OpenSpec.upto snapPutsSpec)

/-- 'relaylaw18.SnapCuts', WHERE WHAT IT READS IS OF BULK AT MOST 1048576: true; the input reads as it did. -/
def snapCutsUptoRow : OpenClaim := { program := "ytfilngbedlkhjaa", sum := "877b3b82d098cf19c8a67faf9ab83ec2c810c9f010d7e528db18b87028d2f21f", func := "relay/relaylaw18.SnapCuts", spec := "snapCuts", apart := false, narrowed := true }
def SnapCutsUptoSaid : Prop := snapCutsUptoRow.holds Try.pinned (OpenSpec.upto snapCutsSpec)

end Rows
end Go.Proofs.Ytfilngbedlkhjaa
