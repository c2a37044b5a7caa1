/-
  A slice of bytes turned into a string; bytes of a row that is marked. No condition but those that each theorem states.
-/
import Derived.Test.YtegmimnhkohaoaaCurE
import Derived.Laws.BytesArg
import Derived.Lib.SlBytesConst
namespace Go.Proofs.Ytegmimnhkohaoaa
open Go.RowKit Go.Kx

theorem run_str {w : World} {S : Nat → Prop} {p : Option Addr} {n c : Nat} {l : List UInt8} (h : Rd w S p l) (hn : l.length = n) :
    (convert 23 9 (.slice p n c)).run Try.prog w = .ok (.string ⟨l.toArray⟩) w := by
  subst hn
  cases p with
  | none =>
    have := h.none_nil
    subst this
    exact run_convert_bytes_nil w 23 5 Try.underlying23 Try.underlying5 _ _ 9 Try.underlying9
  | some a =>
    cases l with
    | nil =>
      show Sem.run Try.prog (convert 23 9 (.slice (some a) 0 c)) w = _
      rw [run_convert_bytes_string w 23 9 5 a 0 c Try.underlying23 Try.underlying5 Try.underlying9, run_bytesToString w a 0 c [] (by simp [loadCells, loadCellsFrom, Sem.run_pure])]
      rfl
    | cons b t =>
      obtain ⟨g, o, he, _, _, hc⟩ := h.at (by simp)
      cases he
      rw [run_convert_bytes_arg w 23 5 Try.underlying23 Try.underlying5 g o _ c ((b :: t).map fun x => (x.toNat : Int)) (by simp) (fun i hi => by rw [hc i hi, List.getD_eq_getElem?_getD, List.getElem?_map, List.getElem?_eq_getElem hi]; rfl) 9 Try.underlying9]
      congr 2
      unfold strOfNums
      congr 2
      rw [List.map_map]
      have : ∀ l : List UInt8, l.map ((fun n => UInt8.ofNat n.toNat) ∘ fun x => ((x.toNat : Nat) : Int)) = l := by
        intro l
        induction l with
        | nil => rfl
        | cons x r ih => rw [List.map_cons, ih]; simp
      exact this _

theorem run_strO {w : World} {g : Nat} {p : Option Addr} {n c : Nat} {l : List UInt8} (h : Own w g (.slice p n c) l) (hn : l.length = n) :
    (convert 23 9 (.slice p n c)).run Try.prog w = .ok (.string ⟨l.toArray⟩) w := run_str h.rd hn

theorem Rd.litm (w : World) (l : List UInt8) (m : Nat × Nat) : Rd (w.alloc (.cells (l.map B8).toArray 5 m)) (· = w.heap.size) (some ⟨w.heap.size, 0, none⟩) l := by
  refine Rd.of_at rfl fun i hi => ?_
  have h := heap_alloc_new w (.cells (l.map B8).toArray 5 m)
  unfold World.cell?
  rw [h]
  simp [hi]

theorem Own.keep {w w' : World} {g : Nat} {v : Value} {l : List UInt8} (h : Own w g v l) (hb : Below w.heap.size w w') : Own w' g v l := h.only (Only.of_below (r := fun _ => False) hb) (fun h => h)
end Go.Proofs.Ytegmimnhkohaoaa
