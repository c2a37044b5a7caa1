/-
  No cell of these rows narrows 'for every input' (looked for: loops, veiled, ifaces, maps, wideKeys, modest, calm, conditions, laid).
  DERIVED. THE GIVEN ROWS OF THIS SEAT. 6 by the template 'for every input the law returns true; each argument reads behind the call as it read before'; 0 by the template 'total and deterministic' (their statements: YtegmimnhkohaoaaTotals.lean).
  GIVEN WITH THE SEED: the statements are not yours to turn. If you find one false, say at which input.
  Laid BY PROGRAM, IN A SANDBOX (cutbox-rows.mjs): the forced cells as the released guide's own fill.sh prints them over the translation 06833cf597655902… (all of the seat's roots in one cut). By AI agents, Wed Nov 11 2026. No macro, syntax, notation, axiom, sorry.
-/
import Derived.Test.YtegmimnhkohaoaaChecked
import GoSem.Claim
import GoSem.ClaimJoined
import GoSem.ClaimMapViews
import Derived.JoinedTies
import Derived.KernelRfl
namespace Go.Proofs.Ytegmimnhkohaoaa
/- THE CELL 'sum', in the pinned program and in every row, IS THE sha256 OF THE DUMP (.gsa) THAT YtegmimnhkohaoaaProg.lean LOADS. Nothing in Lean hashes anything: it is a label: what it is worth is what the hold of that sum in a sandbox is worth. -/
noncomputable def Try.pinned : Pinned := { name := "ytegmimnhkohaoaa", sum := "06833cf597655902cd6ad15b41fae64a745b1e6af18c01b8681b00f25c8b6b78", checked := Try.checked }
namespace Rows
def none {H : Type} : Left H := { results := [], args := [] }

/-- 'relaylaw08.HelloServers': WHATEVER THE INPUT: true; the input reads as it did. -/
def helloServersSpec : ChangeSpec := { name := "helloServers", fn := fun _ => fun
  | [d] => { results := [.lit (.bool true)], args := [d] }
  | _ => none }
def helloServersRow : OpenClaim := { program := "ytegmimnhkohaoaa", sum := "06833cf597655902cd6ad15b41fae64a745b1e6af18c01b8681b00f25c8b6b78", func := "relay/relaylaw08.HelloServers", spec := "helloServers", unfollowed := true, recurses := true, apart := false }
def HelloServersSaid : Prop := helloServersRow.holds Try.pinned (OpenSpec.ofChange helloServersSpec)

/-- ITS FALSE NEIGHBOUR: 'it returns false'. Refute it at one input. -/
def helloServersWrong : ChangeSpec := { name := "helloServers", fn := fun _ => fun
  | [d] => { results := [.lit (.bool false)], args := [d] }
  | _ => none }
def HelloServersWrongFalsely : Prop := helloServersRow.holds Try.pinned (OpenSpec.ofChange helloServersWrong)

/-- 'relaylaw08.HelloLimits': WHATEVER THE INPUT: true; the input reads as it did. -/
def helloLimitsSpec : ChangeSpec := { name := "helloLimits", fn := fun _ => fun
  | [d1, d2] => { results := [.lit (.bool true)], args := [d1, d2] }
  | _ => none }
def helloLimitsRow : OpenClaim := { program := "ytegmimnhkohaoaa", sum := "06833cf597655902cd6ad15b41fae64a745b1e6af18c01b8681b00f25c8b6b78", func := "relay/relaylaw08.HelloLimits", spec := "helloLimits", unfollowed := true, recurses := true, apart := false }
def HelloLimitsSaid : Prop := helloLimitsRow.holds Try.pinned (OpenSpec.ofChange helloLimitsSpec)

/-- ITS FALSE NEIGHBOUR: 'it returns false'. Refute it at one input. -/
def helloLimitsWrong : ChangeSpec := { name := "helloLimits", fn := fun _ => fun
  | [d1, d2] => { results := [.lit (.bool false)], args := [d1, d2] }
  | _ => none }
def HelloLimitsWrongFalsely : Prop := helloLimitsRow.holds Try.pinned (OpenSpec.ofChange helloLimitsWrong)

/-- 'relaylaw08.HelloRaw': WHATEVER THE INPUT: true; the input reads as it did. -/
def helloRawSpec : ChangeSpec := { name := "helloRaw", fn := fun _ => fun
  | [d] => { results := [.lit (.bool true)], args := [d] }
  | _ => none }
def helloRawRow : OpenClaim := { program := "ytegmimnhkohaoaa", sum := "06833cf597655902cd6ad15b41fae64a745b1e6af18c01b8681b00f25c8b6b78", func := "relay/relaylaw08.HelloRaw", spec := "helloRaw", unfollowed := true, recurses := true, apart := false }
def HelloRawSaid : Prop := helloRawRow.holds Try.pinned (OpenSpec.ofChange helloRawSpec)

/-- ITS FALSE NEIGHBOUR: 'it returns false'. Refute it at one input. -/
def helloRawWrong : ChangeSpec := { name := "helloRaw", fn := fun _ => fun
  | [d] => { results := [.lit (.bool false)], args := [d] }
  | _ => none }
def HelloRawWrongFalsely : Prop := helloRawRow.holds Try.pinned (OpenSpec.ofChange helloRawWrong)

/-- 'relaylaw08.HelloExtras': WHATEVER THE INPUT: true; the input reads as it did. -/
def helloExtrasSpec : ChangeSpec := { name := "helloExtras", fn := fun _ => fun
  | [d1, d2, d3] => { results := [.lit (.bool true)], args := [d1, d2, d3] }
  | _ => none }
def helloExtrasRow : OpenClaim := { program := "ytegmimnhkohaoaa", sum := "06833cf597655902cd6ad15b41fae64a745b1e6af18c01b8681b00f25c8b6b78", func := "relay/relaylaw08.HelloExtras", spec := "helloExtras", unfollowed := true, recurses := true, apart := false }
def HelloExtrasSaid : Prop := helloExtrasRow.holds Try.pinned (OpenSpec.ofChange helloExtrasSpec)

/-- ITS FALSE NEIGHBOUR: 'it returns false'. Refute it at one input. -/
def helloExtrasWrong : ChangeSpec := { name := "helloExtras", fn := fun _ => fun
  | [d1, d2, d3] => { results := [.lit (.bool false)], args := [d1, d2, d3] }
  | _ => none }
def HelloExtrasWrongFalsely : Prop := helloExtrasRow.holds Try.pinned (OpenSpec.ofChange helloExtrasWrong)

/-- 'relaylaw08.HelloReads': WHATEVER THE INPUT: true; the input reads as it did. -/
def helloReadsSpec : ChangeSpec := { name := "helloReads", fn := fun _ => fun
  | [d1, d2, d3] => { results := [.lit (.bool true)], args := [d1, d2, d3] }
  | _ => none }
def helloReadsRow : OpenClaim := { program := "ytegmimnhkohaoaa", sum := "06833cf597655902cd6ad15b41fae64a745b1e6af18c01b8681b00f25c8b6b78", func := "relay/relaylaw08.HelloReads", spec := "helloReads", unfollowed := true, recurses := true, apart := false }
def HelloReadsSaid : Prop := helloReadsRow.holds Try.pinned (OpenSpec.ofChange helloReadsSpec)

/-- ITS FALSE NEIGHBOUR: 'it returns false'. Refute it at one input. -/
def helloReadsWrong : ChangeSpec := { name := "helloReads", fn := fun _ => fun
  | [d1, d2, d3] => { results := [.lit (.bool false)], args := [d1, d2, d3] }
  | _ => none }
def HelloReadsWrongFalsely : Prop := helloReadsRow.holds Try.pinned (OpenSpec.ofChange helloReadsWrong)

/-- 'relaylaw08.HelloClients': WHATEVER THE INPUT: true; the input reads as it did. -/
def helloClientsSpec : ChangeSpec := { name := "helloClients", fn := fun _ => fun
  | [d] => { results := [.lit (.bool true)], args := [d] }
  | _ => none }
def helloClientsRow : OpenClaim := { program := "ytegmimnhkohaoaa", sum := "06833cf597655902cd6ad15b41fae64a745b1e6af18c01b8681b00f25c8b6b78", func := "relay/relaylaw08.HelloClients", spec := "helloClients", unfollowed := true, recurses := true, apart := false }
def HelloClientsSaid : Prop := helloClientsRow.holds Try.pinned (OpenSpec.ofChange helloClientsSpec)

/-- ITS FALSE NEIGHBOUR: 'it returns false'. Refute it at one input. -/
def helloClientsWrong : ChangeSpec := { name := "helloClients", fn := fun _ => fun
  | [d] => { results := [.lit (.bool false)], args := [d] }
  | _ => none }
def HelloClientsWrongFalsely : Prop := helloClientsRow.holds Try.pinned (OpenSpec.ofChange helloClientsWrong)

/- THE SECOND FORM. 'bulk': how many values and letters a reading holds, each counted each time it is reached (what is shared counts as often as it is met; a slice's spare places count too). A statement '..UptoSaid' is the law's where the arguments, and the package variables that the reading takes, are together of bulk at most 1048576: NARROWER than '..Said'. Prove '..Said' where nothing that the law and all that it calls make is longer than what came in: it says more and counts as full. Else prove '..UptoSaid'. A law counts once. -/
mutual
def uptoBulk {H : Type} : DataW H → Nat
  | .lit (.string bytes) => bytes.length + 1
  | .lit _ => 1
  | .nil => 1
  | .ptr d => uptoBulk d + 1
  | .slice elems spare => uptoBulkAll elems + uptoBulkAll spare + 1
  | .agg parts => uptoBulkAll parts + 1
  | .iface _ d => uptoBulk d + 1
  | .map entries => uptoBulkEntries entries + 1
  | .held _ => 1
def uptoBulkAll {H : Type} : List (DataW H) → Nat
  | [] => 0
  | d :: r => uptoBulk d + uptoBulkAll r
def uptoBulkEntries {H : Type} : List (Lit × DataW H) → Nat
  | [] => 0
  | x :: r => uptoBulkEntry x + uptoBulkEntries r
def uptoBulkEntry {H : Type} : Lit × DataW H → Nat
  | (.string bytes, d) => bytes.length + uptoBulk d + 1
  | (_, d) => uptoBulk d + 1
 end
def uptoSmall : (H : Type) → List (DataW H) → Bool := fun _ ds => decide (uptoBulkAll ds ≤ 1048576)
def OpenSpec.upto (s : _root_.Go.ChangeSpec) : _root_.Go.OpenSpec := { _root_.Go.OpenSpec.ofChange s with cond := some uptoSmall }

/-- 'relaylaw08.HelloServers', WHERE WHAT IT READS IS OF BULK AT MOST 1048576: true; the input reads as it did. -/
def helloServersUptoRow : OpenClaim := { program := "ytegmimnhkohaoaa", sum := "06833cf597655902cd6ad15b41fae64a745b1e6af18c01b8681b00f25c8b6b78", func := "relay/relaylaw08.HelloServers", spec := "helloServers", unfollowed := true, recurses := true, apart := false, narrowed := true }
def HelloServersUptoSaid : Prop := helloServersUptoRow.holds Try.pinned (OpenSpec.upto helloServersSpec)

/-- 'relaylaw08.HelloLimits', WHERE WHAT IT READS IS OF BULK AT MOST 1048576: true; the input reads as it did. -/
def helloLimitsUptoRow : OpenClaim := { program := "ytegmimnhkohaoaa", sum := "06833cf597655902cd6ad15b41fae64a745b1e6af18c01b8681b00f25c8b6b78", func := "relay/relaylaw08.HelloLimits", spec := "helloLimits", unfollowed := true, recurses := true, apart := false, narrowed := true }
def HelloLimitsUptoSaid : Prop := helloLimitsUptoRow.holds Try.pinned (OpenSpec.upto helloLimitsSpec)

/-- 'relaylaw08.HelloRaw', WHERE WHAT IT READS IS OF BULK AT MOST 1048576: true; the input reads as it did. -/
def helloRawUptoRow : OpenClaim := { program := "ytegmimnhkohaoaa", sum := "06833cf597655902cd6ad15b41fae64a745b1e6af18c01b8681b00f25c8b6b78", func := "relay/relaylaw08.HelloRaw", spec := "helloRaw", unfollowed := true, recurses := true, apart := false, narrowed := true }
def HelloRawUptoSaid : Prop := helloRawUptoRow.holds Try.pinned (OpenSpec.upto helloRawSpec)

/-- 'relaylaw08.HelloExtras', WHERE WHAT IT READS IS OF BULK AT MOST 1048576: true; the input reads as it did. -/
def helloExtrasUptoRow : OpenClaim := { program := "ytegmimnhkohaoaa", sum := "06833cf597655902cd6ad15b41fae64a745b1e6af18c01b8681b00f25c8b6b78", func := "relay/relaylaw08.HelloExtras", spec := "helloExtras", unfollowed := true, recurses := true, apart := false, narrowed := true }
def HelloExtrasUptoSaid : Prop := helloExtrasUptoRow.holds Try.pinned (OpenSpec.upto helloExtrasSpec)

/-- 'relaylaw08.HelloReads', WHERE WHAT IT READS IS OF BULK AT MOST 1048576: true; the input reads as it did. -/
def helloReadsUptoRow : OpenClaim := { program := "ytegmimnhkohaoaa", sum := "06833cf597655902cd6ad15b41fae64a745b1e6af18c01b8681b00f25c8b6b78", func := "relay/relaylaw08.HelloReads", spec := "helloReads", unfollowed := true, recurses := true, apart := false, narrowed := true }
def HelloReadsUptoSaid : Prop := helloReadsUptoRow.holds Try.pinned (OpenSpec.upto helloReadsSpec)

/-- 'relaylaw08.HelloClients', WHERE WHAT IT READS IS OF BULK AT MOST 1048576: true; the input reads as it did. -/
def helloClientsUptoRow : OpenClaim := { program := "ytegmimnhkohaoaa", sum := "06833cf597655902cd6ad15b41fae64a745b1e6af18c01b8681b00f25c8b6b78", func := "relay/relaylaw08.HelloClients", spec := "helloClients", unfollowed := true, recurses := true, apart := false, narrowed := true }
def HelloClientsUptoSaid : Prop := helloClientsUptoRow.holds Try.pinned (OpenSpec.upto helloClientsSpec)

end Rows
end Go.Proofs.Ytegmimnhkohaoaa
