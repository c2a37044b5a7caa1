/-
  No cell of these rows narrows 'for every input' (looked for: loops, veiled, ifaces, maps, wideKeys, modest, calm, conditions, laid).
  DERIVED. THE GIVEN ROWS OF THIS SEAT. 3 by the template 'for every input the law returns true; each argument reads behind the call as it read before'; 0 by the template 'total and deterministic' (their statements: YtkgeecejgpekkaaTotals.lean).
  GIVEN WITH THE SEED: the statements are not yours to turn. If you find one false, say at which input.
  Laid BY PROGRAM, IN A SANDBOX (cutbox-rows.mjs): the forced cells as the released guide's own fill.sh prints them over the translation 9a10b4701593f149… (all of the seat's roots in one cut). By AI agents, Wed Nov 11 2026. No macro, syntax, notation, axiom, sorry.
-/
import Derived.Test.YtkgeecejgpekkaaChecked
import GoSem.Claim
import GoSem.ClaimJoined
import GoSem.ClaimMapViews
import Derived.JoinedTies
import Derived.KernelRfl
namespace Go.Proofs.Ytkgeecejgpekkaa
/- THE CELL 'sum', in the pinned program and in every row, IS THE sha256 OF THE DUMP (.gsa) THAT YtkgeecejgpekkaaProg.lean LOADS. Nothing in Lean hashes anything: it is a label: what it is worth is what the hold of that sum in a sandbox is worth. -/
noncomputable def Try.pinned : Pinned := { name := "ytkgeecejgpekkaa", sum := "9a10b4701593f1499f213153a58d96d4125ea4ffc3d1b2a28f533e39f0243375", checked := Try.checked }
namespace Rows
def none {H : Type} : Left H := { results := [], args := [] }

/-- 'relaylaw09.MessageRows': WHATEVER THE INPUT: true; the input reads as it did. -/
def messageRowsSpec : ChangeSpec := { name := "messageRows", fn := fun _ => fun
  | [d1, d2] => { results := [.lit (.bool true)], args := [d1, d2] }
  | _ => none }
def messageRowsRow : OpenClaim := { program := "ytkgeecejgpekkaa", sum := "9a10b4701593f1499f213153a58d96d4125ea4ffc3d1b2a28f533e39f0243375", func := "relay/relaylaw09.MessageRows", spec := "messageRows", apart := false }
def MessageRowsSaid : Prop := messageRowsRow.holds Try.pinned (OpenSpec.ofChange messageRowsSpec)

/-- ITS FALSE NEIGHBOUR: 'it returns false'. Refute it at one input. -/
def messageRowsWrong : ChangeSpec := { name := "messageRows", fn := fun _ => fun
  | [d1, d2] => { results := [.lit (.bool false)], args := [d1, d2] }
  | _ => none }
def MessageRowsWrongFalsely : Prop := messageRowsRow.holds Try.pinned (OpenSpec.ofChange messageRowsWrong)

/-- 'relaylaw09.MessagePieces': WHATEVER THE INPUT: true; the input reads as it did. -/
def messagePiecesSpec : ChangeSpec := { name := "messagePieces", fn := fun _ => fun
  | [d1, d2, d3] => { results := [.lit (.bool true)], args := [d1, d2, d3] }
  | _ => none }
def messagePiecesRow : OpenClaim := { program := "ytkgeecejgpekkaa", sum := "9a10b4701593f1499f213153a58d96d4125ea4ffc3d1b2a28f533e39f0243375", func := "relay/relaylaw09.MessagePieces", spec := "messagePieces", apart := false }
def MessagePiecesSaid : Prop := messagePiecesRow.holds Try.pinned (OpenSpec.ofChange messagePiecesSpec)

/-- ITS FALSE NEIGHBOUR: 'it returns false'. Refute it at one input. -/
def messagePiecesWrong : ChangeSpec := { name := "messagePieces", fn := fun _ => fun
  | [d1, d2, d3] => { results := [.lit (.bool false)], args := [d1, d2, d3] }
  | _ => none }
def MessagePiecesWrongFalsely : Prop := messagePiecesRow.holds Try.pinned (OpenSpec.ofChange messagePiecesWrong)

/-- 'relaylaw09.MessageBodies': WHATEVER THE INPUT: true; the input reads as it did. -/
def messageBodiesSpec : ChangeSpec := { name := "messageBodies", fn := fun _ => fun
  | [d1, d2, d3] => { results := [.lit (.bool true)], args := [d1, d2, d3] }
  | _ => none }
def messageBodiesRow : OpenClaim := { program := "ytkgeecejgpekkaa", sum := "9a10b4701593f1499f213153a58d96d4125ea4ffc3d1b2a28f533e39f0243375", func := "relay/relaylaw09.MessageBodies", spec := "messageBodies", apart := false }
def MessageBodiesSaid : Prop := messageBodiesRow.holds Try.pinned (OpenSpec.ofChange messageBodiesSpec)

/-- ITS FALSE NEIGHBOUR: 'it returns false'. Refute it at one input. -/
def messageBodiesWrong : ChangeSpec := { name := "messageBodies", fn := fun _ => fun
  | [d1, d2, d3] => { results := [.lit (.bool false)], args := [d1, d2, d3] }
  | _ => none }
def MessageBodiesWrongFalsely : Prop := messageBodiesRow.holds Try.pinned (OpenSpec.ofChange messageBodiesWrong)

/- THE SECOND FORM. 'bulk': how many values and letters a reading holds, each counted each time it is reached (what is shared counts as often as it is met; a slice's spare places count too). A statement '..UptoSaid' is the law's where the arguments, and the package variables that the reading takes, are together of bulk at most 1048576: NARROWER than '..Said'. Prove '..Said' where nothing that the law and all that it calls make is longer than what came in: it says more and counts as full. Else prove '..UptoSaid'. A law counts once. -/
mutual
def uptoBulk {H : Type} : DataW H → Nat
  | .lit (.string bytes) => bytes.length + 1
  | .lit _ => 1
  | .nil => 1
  | .ptr d => uptoBulk d + 1
  | .slice elems spare => uptoBulkAll elems + uptoBulkAll spare + 1
  | .agg parts => uptoBulkAll parts + 1
  | .iface _ d => uptoBulk d + 1
  | .map entries => uptoBulkEntries entries + 1
  | .held _ => 1
def uptoBulkAll {H : Type} : List (DataW H) → Nat
  | [] => 0
  | d :: r => uptoBulk d + uptoBulkAll r
def uptoBulkEntries {H : Type} : List (Lit × DataW H) → Nat
  | [] => 0
  | x :: r => uptoBulkEntry x + uptoBulkEntries r
def uptoBulkEntry {H : Type} : Lit × DataW H → Nat
  | (.string bytes, d) => bytes.length + uptoBulk d + 1
  | (_, d) => uptoBulk d + 1
 end
def uptoSmall : (H : Type) → List (DataW H) → Bool := fun _ ds => decide (uptoBulkAll ds ≤ 1048576)
def OpenSpec.upto (s : _root_.Go.ChangeSpec) : _root_.Go.OpenSpec := { _root_.Go.OpenSpec.ofChange s with cond := some uptoSmall }

/-- 'relaylaw09.MessageRows', WHERE WHAT IT READS IS OF BULK AT MOST 1048576: true; the input reads as it did. -/
def messageRowsUptoRow : OpenClaim := { program := "ytkgeecejgpekkaa", sum := "9a10b4701593f1499f213153a58d96d4125ea4ffc3d1b2a28f533e39f0243375", func := "relay/relaylaw09.MessageRows", spec := "messageRows", apart := false, narrowed := true }
def MessageRowsUptoSaid : Prop := messageRowsUptoRow.holds Try.pinned (OpenSpec.upto messageRowsSpec)

/-- 'relaylaw09.MessagePieces', WHERE WHAT IT READS IS OF BULK AT MOST 1048576: true; the input reads as it did. -/
def messagePiecesUptoRow : OpenClaim := { program := "ytkgeecejgpekkaa", sum := "9a10b4701593f1499f213153a58d96d4125ea4ffc3d1b2a28f533e39f0243375", func := "relay/relaylaw09.MessagePieces", spec := "messagePieces", apart := false, narrowed := true }
def MessagePiecesUptoSaid : Prop := messagePiecesUptoRow.holds Try.pinned (OpenSpec.upto messagePiecesSpec)

/-- 'relaylaw09.MessageBodies', WHERE WHAT IT READS IS OF BULK AT MOST 1048576: true; the input reads as it did. -/
def messageBodiesUptoRow : OpenClaim := { program := "ytkgeecejgpekkaa", sum := "9a10b4701593f1499f213153a58d96d4125ea4ffc3d1b2a28f533e39f0243375", func := "relay/relaylaw09.MessageBodies", spec := "messageBodies", apart := false, narrowed := true }
def MessageBodiesUptoSaid : Prop := messageBodiesUptoRow.holds Try.pinned (OpenSpec.upto messageBodiesSpec)

end Rows
end Go.Proofs.Ytkgeecejgpekkaa
