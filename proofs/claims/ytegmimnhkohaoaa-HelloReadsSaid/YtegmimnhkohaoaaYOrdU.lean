/-
  A region that draws its order and ends in a chain: what a guard leaves out is taken first. Of any program; no condition but those that the theorem states.
-/
import Derived.Test.YtegmimnhkohaoaaZg4
namespace Go.Kx
open Go.RowKit
section
variable {P : Program} {ops : Array Oper} {Q : Exit → Act → World → Prop} {S : World → Prop} {n : Nat}
/-- Number i, which a guard leaves out, is taken first. -/
theorem wpAnyT_skip {tl : List Oper} {i : Nat} {oi : Oper} {fuel : Nat} {listed : Array Bool} {a : Act} {w : World} (hi : ops[i]? = some oi)
    (hB : takeB ops n i listed = true) (hQ : ∀ c a w, Q (.panic c) (a.put oi.dst undef) w → Q (.panic c) a w) (hw : Region.wanted oi (yielded ops a.tmps) = false) (hS : S w)
    (h : wpAnyT P .any ops Q S n (TailT P ops Q n tl) fuel (listed.setIfInBounds i true) (a.put oi.dst undef) w) : wpAnyT P .any ops Q S n (TailT P ops Q n tl) (fuel + 1) listed a w := by
  simp only [takeB, Bool.and_eq_true, decide_eq_true_eq] at hB
  obtain ⟨⟨⟨⟨⟨⟨⟨hsel, hn⟩, hin⟩, hs⟩, hc⟩, hh⟩, hf⟩, hr⟩ := hB
  exact wpAnyT_first hi (Region.noSelect_spec hsel) hQ hs hc hn hin (fun listed a w hT => seqB_ready hT.1) fuel listed a w (headInv_of hh) (Region.free_spec hi hf) (by simpa using hr) (.inr ⟨hw, rfl⟩) hS h
end
end Go.Kx
