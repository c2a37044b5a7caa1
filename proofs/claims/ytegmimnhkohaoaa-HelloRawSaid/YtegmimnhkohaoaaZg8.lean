/-
  How the bytes that a law is handed read in the words of the walks, beside where they lie. No condition.
-/
import Derived.Test.YtegmimnhkohaoaaZg1
import Derived.Test.YtegmimnhkohaoaaZg4
import Derived.Test.YtegmimnhkohaoaaZLawHR
namespace Go.Proofs.Ytegmimnhkohaoaa
open Go.RowKit Go.Kx Go.WideShapes
set_option maxRecDepth 100000
/-- What the walk is told of a slice of bytes. -/
def RawIn (w : World) (a : Option Addr) (len cap : Nat) : Prop := ∃ l : List UInt8, Rd w (· < w.heap.size) a l ∧ l.length = len ∧ len ≤ cap ∧ cap ≤ maxLen ∧ (a = none → cap = 0) ∧ (∀ x, a = some x → x.spot = none ∧ x.block < w.heap.size)
theorem rawIn {W : World} {base : Nat} {a : Option Addr} {len cap : Nat} {zs : List Int} (hv : Value.okWide Try.prog W .any base 23 (.slice a len cap)) (h : IsRow .u8 W a len cap zs) : RawIn W a len cap := by
  obtain ⟨l, h1, h2, h3, h4, h5⟩ := open_bytes h
  refine ⟨l, h1, h2, h3, h4, h5, ?_⟩
  rintro x rfl
  simp only [Value.okWide, Try.underlying23, Cell.okWide] at hv
  simp only [Cell.ok, Try.underlying23] at hv
  obtain ⟨_, _, _, h6, row, cells, h7, _⟩ := hv
  refine ⟨h6, ?_⟩
  unfold World.shape? at h7
  split at h7
  · rename_i hh
    exact (Array.getElem?_eq_some_iff.1 hh).1
  · cases h7
end Go.Proofs.Ytegmimnhkohaoaa
/-
  HelloRaw's walk and the opening of its argument, together. No condition.
-/

