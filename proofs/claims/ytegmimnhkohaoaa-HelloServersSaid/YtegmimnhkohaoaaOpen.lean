/-
  How the bytes that the row hands over read in the words of the walks. No condition.
-/
import Derived.Test.YtegmimnhkohaoaaBase
import Derived.ProofKit
import Derived.OpenShut
namespace Go.Proofs.Ytegmimnhkohaoaa
open Go.RowKit Go.Kx

/-- WHAT THE WALK IS TOLD OF A SLICE OF INTEGERS THAT CAME IN: it is nil; or it leads to a row of 'cap' cells, the numbers 'zs' (the first 'len' are its elements, the rest its spare room), each fitting its kind. -/
def IsRow (k : IntKind) (w : World) (a : Option Addr) (len cap : Nat) (zs : List Int) : Prop :=
  (a = none ∧ len = 0 ∧ cap = 0 ∧ zs = []) ∨
  ∃ x, a = some x ∧ len ≤ cap ∧ cap ≤ maxLen ∧ zs.length = cap ∧ (∀ i, i < zs.length → w.cell? (x.add i) = some (.int k (zs.getD i 0))) ∧ ∀ n ∈ zs, (Lit.int k n).wf = true

theorem open_bytes {w : World} {a : Option Addr} {len cap : Nat} {zs : List Int} (h : IsRow .u8 w a len cap zs) :
    ∃ l : List UInt8, Rd w (· < w.heap.size) a l ∧ l.length = len ∧ len ≤ cap ∧ cap ≤ maxLen ∧ (a = none → cap = 0) := by
  rcases h with ⟨rfl, rfl, rfl, rfl⟩ | ⟨x, rfl, h1, h2, h3, h4, h5⟩
  · exact ⟨[], Rd.nil _ _ _, rfl, Nat.le_refl _, by simp [maxLen], fun _ => rfl⟩
  · refine ⟨(zs.take len).map fun n => UInt8.ofNat n.toNat, ?_, by rw [List.length_map, List.length_take]; omega, h1, h2, by intro h; cases h⟩
    intro i hi
    have hi' : i < len := by rw [List.length_map, List.length_take] at hi; omega
    have hc := h4 i (by omega)
    refine ⟨x, rfl, by have := World.block_lt_of_cell? w _ hc; rwa [add_block] at this, ?_⟩
    rw [hc]
    have hz : zs.getD i 0 = zs[i]'(by omega) := by rw [List.getD_eq_getElem?_getD, List.getElem?_eq_getElem (by omega)]; rfl
    have hwf := h5 _ (List.getElem_mem (h := (by omega : i < zs.length)))
    have hb : 0 ≤ zs[i]'(by omega) ∧ zs[i]'(by omega) ≤ 255 := by have := bounds_u8 hwf; omega
    rw [hz]
    simp only [List.getElem_map, List.getElem_take]
    have : ((UInt8.ofNat (zs[i]'(by omega)).toNat).toNat : Int) = zs[i]'(by omega) := by
      rw [UInt8.toNat_ofNat']
      omega
    unfold B8
    rw [this]
end Go.Proofs.Ytegmimnhkohaoaa
