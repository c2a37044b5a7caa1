/-
  How the row of messages that is handed over reads in the words of the walk. No condition.
-/
import Derived.Test.YtkgeecejgpekkaaMsgsPure
import Derived.Deep.SlicePairs
import Derived.OpenShut
namespace Go.Proofs.Ytkgeecejgpekkaa
open Go.RowKit Go.Kx Go.Deep Go.ChangeShapes

theorem msgs_of {H : Type} {enc : TypeId × Value → H} {w : World} {fuel : Nat} {a : Option Addr} {len cap : Nat} {x : DataW H × List MemPlace}
    (hf : DataW.trod enc Try.prog w 0 (fun _ => true) true fuel 22 (Value.slice a len cap).cells.toList = some x) : IsMsgs w a len cap := by
  rcases open_slice_pairs Try.underlying22 Try.underlying25 (by kernel_rfl) rfl rfl (by kernel_rfl) (by kernel_rfl) hf with ⟨hcs, _⟩ | ⟨y, l, c, m, n, V0, V1, D0, D1, P0, P1, hcs, _, hl, hm, hmm, _, hx⟩
  · simp [Value.cells] at hcs
    obtain ⟨rfl, rfl, rfl⟩ := hcs
    exact .inl ⟨rfl, rfl, rfl⟩
  · simp [Value.cells] at hcs
    obtain ⟨rfl, rfl, rfl⟩ := hcs
    simp only [if_true] at hmm
    have key : ∀ r : Nat, ∃ q : Int × Option Addr × Nat × Nat × List Int, r < len → (w.cell? (y.add (r * 2)) = some (.int .i64 q.1) ∧ w.cell? (y.add (r * 2 + 1)) = some (.slice q.2.1 q.2.2.1 q.2.2.2.1) ∧ IsRow .u8 w q.2.1 q.2.2.1 q.2.2.2.1 q.2.2.2.2) := by
      intro r
      by_cases hr : r < len
      · obtain ⟨e0, e1, g0, g1⟩ := hx r (by omega)
        obtain ⟨k, hk, _⟩ := DataW.trod_int Try.underlying3 g0
        simp at hk
        rcases open_ints Try.underlying23 Try.underlying5 (by kernel_rfl) g1 with ⟨hc, _⟩ | ⟨x', l', c', zs, hc, _, hl', hm', hz, _, hcell, hwz⟩
        · simp at hc
          refine ⟨(k, none, 0, 0, []), fun _ => ⟨by rw [e0, hk], by rw [e1, hc], .inl ⟨rfl, rfl, rfl, rfl⟩⟩⟩
        · simp at hc
          refine ⟨(k, some x', l', c', zs), fun _ => ⟨by rw [e0, hk], by rw [e1, hc], .inr ⟨x', rfl, hl', hm', by simpa using hz, hcell, hwz⟩⟩⟩
      · exact ⟨(0, none, 0, 0, []), fun h => absurd h hr⟩
    obtain ⟨q, hq⟩ := Classical.axiomOfChoice key
    exact .inr ⟨y, fun r => (q r).1, fun r => (q r).2.1, fun r => (q r).2.2.1, fun r => (q r).2.2.2.1, fun r => (q r).2.2.2.2, rfl, hl, hm, fun r hr => hq r hr⟩
end Go.Proofs.Ytkgeecejgpekkaa
