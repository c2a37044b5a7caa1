/-
  HelloReads' walk and the opening of its arguments, together. No condition.
-/
import Derived.Test.YtegmimnhkohaoaaYLawHD
import Derived.Test.YtegmimnhkohaoaaZg11
namespace Go.Proofs.Ytegmimnhkohaoaa
open Go.RowKit
theorem SmallC.fitD {s : Cl} {m : Nat} (h : SmallC s m) (hm : m ≤ 1048576) : FitR s := ⟨by have := h.l2; omega, by have := h.l3; omega, by have := h.l4; omega, by have := h.l5; omega, fun t ht => by have := h.e6 t ht; omega, fun t ht => by have := h.e9 t ht; omega, fun t ht => by have := h.e10 t ht; omega⟩
def IsSvU (w : World) (C : Array Value) (_ : Nat) : Prop := IsSvE w C
theorem sv_ofU {H : Type} {enc : TypeId × Value → H} {w : World} {fuel m : Nat} {C : Array Value} {x : DataW H × List MemPlace}
    (hsz : C.size = Try.prog.cellsOf 27) (hf : DataW.trod enc Try.prog w 0 (fun _ => true) true fuel 27 (Value.agg C).cells.toList = some x) : IsSvU w C m := sv_of hsz hf
end Go.Proofs.Ytegmimnhkohaoaa
