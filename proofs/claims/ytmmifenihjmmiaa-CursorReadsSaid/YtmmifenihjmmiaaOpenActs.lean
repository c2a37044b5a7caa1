/-
  How one call of the row that is handed over reads: four numbers. Conditions: those of the theorem.
-/
import Derived.Test.YtmmifenihjmmiaaLawR
import Derived.Deep.Slices
import Derived.OpenShut
namespace Go.Proofs.Ytmmifenihjmmiaa
open Go.RowKit Go.Kx Go.Deep

theorem acts_of {H : Type} {enc : TypeId × Value → H} {P : Program} {w : World} {base : Nat} {spare : Nat → Bool} {held : Bool} {e : TypeId} {f0 f1 f2 f3 : Field} {n : Nat} {a : Addr} {cs : List Value} {y : DataW H × List MemPlace}
    (he : P.underlying e = some (.struct #[f0, f1, f2, f3])) (o0 : f0.offset = 0) (o1 : f1.offset = 1) (o2 : f2.offset = 2) (o3 : f3.offset = 3) (t0 : f0.type = 3) (t1 : f1.type = 3) (t2 : f2.type = 3) (t3 : f3.type = 3)
    (c1 : P.cellsOf 3 = 1) (hi : P.underlying 3 = some (.int .i64)) (h1 : w.cells? base a 4 = some cs) (h2 : DataW.trod enc P w base spare held n e cs = some y) :
    ∃ k0 k1 k2 k3 : Int, ∀ j u, [Value.int .i64 k0, Value.int .i64 k1, Value.int .i64 k2, Value.int .i64 k3][j]? = some u → w.cell? (a.add j) = some u := by
  obtain ⟨_, hlen, hcell⟩ := World.cells?_some h1
  obtain ⟨xs, k, hk, hxy, _, hxl, hf⟩ := DataW.trod_struct he h2
  match xs, hxl, cs, hlen with
  | [y0, y1, y2, y3], _, [v0, v1, v2, v3], _ =>
    have g0 := hf 0 f0 rfl
    have g1 := hf 1 f1 rfl
    have g2 := hf 2 f2 rfl
    have g3 := hf 3 f3 rfl
    simp [o0, o1, o2, o3, t0, t1, t2, t3, c1] at g0 g1 g2 g3
    obtain ⟨k0, q0, _⟩ := DataW.trod_int hi g0
    obtain ⟨k1, q1, _⟩ := DataW.trod_int hi g1
    obtain ⟨k2, q2, _⟩ := DataW.trod_int hi g2
    obtain ⟨k3, q3, _⟩ := DataW.trod_int hi g3
    simp at q0 q1 q2 q3
    subst q0 q1 q2 q3
    refine ⟨k0, k1, k2, k3, fun j u hu => ?_⟩
    have hj : j < 4 := by
      have := (List.getElem?_eq_some_iff.1 hu).1
      simpa using this
    have := hcell j hj
    rw [this]
    exact hu
end Go.Proofs.Ytmmifenihjmmiaa
