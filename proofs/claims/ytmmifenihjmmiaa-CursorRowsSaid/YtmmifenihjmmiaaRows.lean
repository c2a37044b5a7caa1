/-
  No cell of these rows narrows 'for every input' (looked for: loops, veiled, ifaces, maps, wideKeys, modest, calm, conditions, laid).
  DERIVED. THE GIVEN ROWS OF THIS SEAT. 4 by the template 'for every input the law returns true; each argument reads behind the call as it read before'; 0 by the template 'total and deterministic' (their statements: YtmmifenihjmmiaaTotals.lean).
  GIVEN WITH THE SEED: the statements are not yours to turn. If you find one false, say at which input.
  Laid BY PROGRAM, IN A SANDBOX (cutbox-rows.mjs): the forced cells as the released guide's own fill.sh prints them over the translation 85dc5db75530de5b… (all of the seat's roots in one cut). By AI agents, Wed Nov 11 2026. No macro, syntax, notation, axiom, sorry.
-/
import Derived.Test.YtmmifenihjmmiaaChecked
import GoSem.Claim
import GoSem.ClaimJoined
import GoSem.ClaimMapViews
import Derived.JoinedTies
import Derived.KernelRfl
namespace Go.Proofs.Ytmmifenihjmmiaa
/- THE CELL 'sum', in the pinned program and in every row, IS THE sha256 OF THE DUMP (.gsa) THAT YtmmifenihjmmiaaProg.lean LOADS. Nothing in Lean hashes anything: it is a label: what it is worth is what the hold of that sum in a sandbox is worth. -/
noncomputable def Try.pinned : Pinned := { name := "ytmmifenihjmmiaa", sum := "85dc5db75530de5b67bafc4d3346d92d89bf42891646ddce2c75bef0d450b6d2", checked := Try.checked }
namespace Rows
def none {H : Type} : Left H := { results := [], args := [] }

/-- 'relaylaw07.CursorRows': WHATEVER THE INPUT: true; the input reads as it did. -/
def cursorRowsSpec : ChangeSpec := { name := "cursorRows", fn := fun _ => fun
  | [d1, d2] => { results := [.lit (.bool true)], args := [d1, d2] }
  | _ => none }
def cursorRowsRow : OpenClaim := { program := "ytmmifenihjmmiaa", sum := "85dc5db75530de5b67bafc4d3346d92d89bf42891646ddce2c75bef0d450b6d2", func := "relay/relaylaw07.CursorRows", spec := "cursorRows", apart := false }
def CursorRowsSaid : Prop := cursorRowsRow.holds Try.pinned (OpenSpec.ofChange cursorRowsSpec)

/-- ITS FALSE NEIGHBOUR: 'it returns false'. Refute it at one input. -/
def cursorRowsWrong : ChangeSpec := { name := "cursorRows", fn := fun _ => fun
  | [d1, d2] => { results := [.lit (.bool false)], args := [d1, d2] }
  | _ => none }
def CursorRowsWrongFalsely : Prop := cursorRowsRow.holds Try.pinned (OpenSpec.ofChange cursorRowsWrong)

/-- 'relaylaw07.CursorPuts': WHATEVER THE INPUT: true; the input reads as it did. -/
def cursorPutsSpec : ChangeSpec := { name := "cursorPuts", fn := fun _ => fun
  | [d1, d2, d3] => { results := [.lit (.bool true)], args := [d1, d2, d3] }
  | _ => none }
def cursorPutsRow : OpenClaim := { program := "ytmmifenihjmmiaa", sum := "85dc5db75530de5b67bafc4d3346d92d89bf42891646ddce2c75bef0d450b6d2", func := "relay/relaylaw07.CursorPuts", spec := "cursorPuts", apart := false }
def CursorPutsSaid : Prop := cursorPutsRow.holds Try.pinned (OpenSpec.ofChange cursorPutsSpec)

/-- ITS FALSE NEIGHBOUR: 'it returns false'. Refute it at one input. -/
def cursorPutsWrong : ChangeSpec := { name := "cursorPuts", fn := fun _ => fun
  | [d1, d2, d3] => { results := [.lit (.bool false)], args := [d1, d2, d3] }
  | _ => none }
def CursorPutsWrongFalsely : Prop := cursorPutsRow.holds Try.pinned (OpenSpec.ofChange cursorPutsWrong)

/-- 'relaylaw07.CursorReads': WHATEVER THE INPUT: true; the input reads as it did. -/
def cursorReadsSpec : ChangeSpec := { name := "cursorReads", fn := fun _ => fun
  | [d1, d2] => { results := [.lit (.bool true)], args := [d1, d2] }
  | _ => none }
def cursorReadsRow : OpenClaim := { program := "ytmmifenihjmmiaa", sum := "85dc5db75530de5b67bafc4d3346d92d89bf42891646ddce2c75bef0d450b6d2", func := "relay/relaylaw07.CursorReads", spec := "cursorReads", apart := false }
def CursorReadsSaid : Prop := cursorReadsRow.holds Try.pinned (OpenSpec.ofChange cursorReadsSpec)

/-- ITS FALSE NEIGHBOUR: 'it returns false'. Refute it at one input. -/
def cursorReadsWrong : ChangeSpec := { name := "cursorReads", fn := fun _ => fun
  | [d1, d2] => { results := [.lit (.bool false)], args := [d1, d2] }
  | _ => none }
def CursorReadsWrongFalsely : Prop := cursorReadsRow.holds Try.pinned (OpenSpec.ofChange cursorReadsWrong)

/-- 'relaylaw07.CursorWrongs': WHATEVER THE INPUT: true; the input reads as it did. -/
def cursorWrongsSpec : ChangeSpec := { name := "cursorWrongs", fn := fun _ => fun
  | [d1, d2, d3] => { results := [.lit (.bool true)], args := [d1, d2, d3] }
  | _ => none }
def cursorWrongsRow : OpenClaim := { program := "ytmmifenihjmmiaa", sum := "85dc5db75530de5b67bafc4d3346d92d89bf42891646ddce2c75bef0d450b6d2", func := "relay/relaylaw07.CursorWrongs", spec := "cursorWrongs", apart := false }
def CursorWrongsSaid : Prop := cursorWrongsRow.holds Try.pinned (OpenSpec.ofChange cursorWrongsSpec)

/-- ITS FALSE NEIGHBOUR: 'it returns false'. Refute it at one input. -/
def cursorWrongsWrong : ChangeSpec := { name := "cursorWrongs", fn := fun _ => fun
  | [d1, d2, d3] => { results := [.lit (.bool false)], args := [d1, d2, d3] }
  | _ => none }
def CursorWrongsWrongFalsely : Prop := cursorWrongsRow.holds Try.pinned (OpenSpec.ofChange cursorWrongsWrong)

/- THE SECOND FORM. 'bulk': how many values and letters a reading holds, each counted each time it is reached (what is shared counts as often as it is met; a slice's spare places count too). A statement '..UptoSaid' is the law's where the arguments, and the package variables that the reading takes, are together of bulk at most 1048576: NARROWER than '..Said'. Prove '..Said' where nothing that the law and all that it calls make is longer than what came in: it says more and counts as full. Else prove '..UptoSaid'. A law counts once. -/
mutual
def uptoBulk {H : Type} : DataW H → Nat
  | .lit (.string bytes) => bytes.length + 1
  | .lit _ => 1
  | .nil => 1
  | .ptr d => uptoBulk d + 1
  | .slice elems spare => uptoBulkAll elems + uptoBulkAll spare + 1
  | .agg parts => uptoBulkAll parts + 1
  | .iface _ d => uptoBulk d + 1
  | .map entries => uptoBulkEntries entries + 1
  | .held _ => 1
def uptoBulkAll {H : Type} : List (DataW H) → Nat
  | [] => 0
  | d :: r => uptoBulk d + uptoBulkAll r
def uptoBulkEntries {H : Type} : List (Lit × DataW H) → Nat
  | [] => 0
  | x :: r => uptoBulkEntry x + uptoBulkEntries r
def uptoBulkEntry {H : Type} : Lit × DataW H → Nat
  | (.string bytes, d) => bytes.length + uptoBulk d + 1
  | (_, d) => uptoBulk d + 1
 end
def uptoSmall : (H : Type) → List (DataW H) → Bool := fun _ ds => decide (uptoBulkAll ds ≤ 1048576)
def OpenSpec.upto (s : _root_.Go.ChangeSpec) : _root_.Go.OpenSpec := { _root_.Go.OpenSpec.ofChange s with cond := some uptoSmall }

/-- 'relaylaw07.CursorRows', WHERE WHAT IT READS IS OF BULK AT MOST 1048576: true; the input reads as it did. -/
def cursorRowsUptoRow : OpenClaim := { program := "ytmmifenihjmmiaa", sum := "85dc5db75530de5b67bafc4d3346d92d89bf42891646ddce2c75bef0d450b6d2", func := "relay/relaylaw07.CursorRows", spec := "cursorRows", apart := false, narrowed := true }
def CursorRowsUptoSaid : Prop := cursorRowsUptoRow.holds Try.pinned (OpenSpec.upto cursorRowsSpec)

/-- 'relaylaw07.CursorPuts', WHERE WHAT IT READS IS OF BULK AT MOST 1048576: true; the input reads as it did. -/
def cursorPutsUptoRow : OpenClaim := { program := "ytmmifenihjmmiaa", sum := "85dc5db75530de5b67bafc4d3346d92d89bf42891646ddce2c75bef0d450b6d2", func := "relay/relaylaw07.CursorPuts", spec := "cursorPuts", apart := false, narrowed := true }
def CursorPutsUptoSaid : Prop := cursorPutsUptoRow.holds Try.pinned (OpenSpec.upto cursorPutsSpec)

/-- 'relaylaw07.CursorReads', WHERE WHAT IT READS IS OF BULK AT MOST 1048576: true; the input reads as it did. -/
def cursorReadsUptoRow : OpenClaim := { program := "ytmmifenihjmmiaa", sum := "85dc5db75530de5b67bafc4d3346d92d89bf42891646ddce2c75bef0d450b6d2", func := "relay/relaylaw07.CursorReads", spec := "cursorReads", apart := false, narrowed := true }
def CursorReadsUptoSaid : Prop := cursorReadsUptoRow.holds Try.pinned (OpenSpec.upto cursorReadsSpec)

/-- 'relaylaw07.CursorWrongs', WHERE WHAT IT READS IS OF BULK AT MOST 1048576: true; the input reads as it did. -/
def cursorWrongsUptoRow : OpenClaim := { program := "ytmmifenihjmmiaa", sum := "85dc5db75530de5b67bafc4d3346d92d89bf42891646ddce2c75bef0d450b6d2", func := "relay/relaylaw07.CursorWrongs", spec := "cursorWrongs", apart := false, narrowed := true }
def CursorWrongsUptoSaid : Prop := cursorWrongsUptoRow.holds Try.pinned (OpenSpec.upto cursorWrongsSpec)

end Rows
end Go.Proofs.Ytmmifenihjmmiaa
