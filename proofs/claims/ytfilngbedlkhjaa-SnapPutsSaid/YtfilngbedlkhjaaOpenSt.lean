/-
  How the State that is handed over reads in the words of the walk. No condition.
-/
import Derived.Test.YtfilngbedlkhjaaSnL
import Derived.Test.YtfilngbedlkhjaaOpen
import Derived.OpenShut
import Derived.WalkKit
import Derived.ProofKit
namespace Go.Proofs.Ytfilngbedlkhjaa
open Go.RowKit Go.Kx Go.ChangeShapes Go.WideShapes Go.ChangeAt
set_option linter.unusedVariables false
set_option linter.unusedSimpArgs false

theorem take_one {cs : List Value} {o : Nat} {v : Value} (h : (cs.drop o).take 1 = [v]) : cs[o]? = some v := by
  have := congrArg (fun l => l[0]?) h
  simpa using this
section
variable {H : Type} {enc : TypeId × Value → H} {w : World} {fuel : Nat} {cs : List Value} {o : Nat} {x : DataW H × List MemPlace}
theorem one_int (h : DataW.trod enc Try.prog w 0 (fun _ => true) true fuel 3 ((cs.drop o).take 1) = some x) : ∃ n : Int, cs[o]? = some (.int .i64 n) := by
  obtain ⟨n, hn, _⟩ := DataW.trod_int Try.underlying3 h
  exact ⟨n, take_one hn⟩
theorem one_bool (h : DataW.trod enc Try.prog w 0 (fun _ => true) true fuel 4 ((cs.drop o).take 1) = some x) : ∃ b : Bool, cs[o]? = some (.bool b) := by
  obtain ⟨n, hn, _⟩ := DataW.trod_bool Try.underlying4 h
  exact ⟨n, take_one hn⟩
theorem one_bytes (h : DataW.trod enc Try.prog w 0 (fun _ => true) true fuel 22 ((cs.drop o).take 1) = some x) : ∃ (v : Value) (l : List UInt8), cs[o]? = some v ∧ Sl w v l := by
  rcases open_ints Try.underlying22 Try.underlying5 (by kernel_rfl) h with ⟨hcs, _⟩ | ⟨y, l, c, zs, hcs, _, hl, hm, hz, _, hcell, hwz⟩
  · exact ⟨_, [], take_one hcs, Sl.nil w⟩
  · have hr : IsRow .u8 w (some y) l c zs := .inr ⟨y, rfl, hl, hm, by simpa using hz, hcell, hwz⟩
    obtain ⟨b, h1, h2, h3, h4, h5⟩ := open_bytes hr
    exact ⟨_, b, take_one hcs, some y, l, c, rfl, h2, h1.mono (fun _ _ _ => trivial), h5, h3, h4⟩
theorem one_sums (h : DataW.trod enc Try.prog w 0 (fun _ => true) true fuel 24 ((cs.drop o).take 224) = some x) : ∃ sm : List UInt8, sm.length = 224 ∧ ∀ i (h : i < sm.length), cs[o + i]? = some (B8 sm[i]) := by
  have key : ∀ j : Nat, ∃ b : UInt8, j < 224 → cs[o + j]? = some (B8 b) := by
    intro j
    by_cases hj : j < 224
    · obtain ⟨xs, m, rfl, _, _, hxl, hel⟩ := DataW.trod_array Try.underlying24 h
      have hi : j / 32 < 7 := by omega
      have h1 := hel (j / 32) hi
      rw [List.getElem?_eq_getElem (by omega), show Try.prog.cellsOf 23 = 32 from by kernel_rfl] at h1
      obtain ⟨ys, m2, rfl, _, _, hyl, hel2⟩ := DataW.trod_array Try.underlying23 h1
      have h2 := hel2 (j % 32) (by omega)
      rw [List.getElem?_eq_getElem (by omega), show Try.prog.cellsOf 5 = 1 from by kernel_rfl] at h2
      obtain ⟨n, hn, _, hwf⟩ := DataW.trod_int Try.underlying5 h2
      have h3 := take_one hn
      simp only [List.getElem?_take, List.getElem?_drop, Nat.mul_one] at h3
      have hb : 0 ≤ n ∧ n ≤ 255 := by have := bounds_u8 hwf; omega
      rw [if_pos (by omega), if_pos (by omega)] at h3
      refine ⟨UInt8.ofNat n.toNat, fun _ => ?_⟩
      rw [show o + j = o + (j / 32 * 32 + j % 32) by omega, h3]
      unfold B8
      congr 2
      rw [UInt8.toNat_ofNat']
      omega
    · exact ⟨0, fun h => absurd h hj⟩
  obtain ⟨f, hf⟩ := Classical.axiomOfChoice key
  refine ⟨(List.range 224).map f, by rw [List.length_map, List.length_range], fun i hi => ?_⟩
  rw [List.length_map, List.length_range] at hi
  rw [hf i hi]
  simp
end

/-- It is a State's. -/
def IsStE (w : World) (C : Array Value) : Prop := ∃ s, IsSt w C s
set_option maxRecDepth 100000 in
theorem st_of {H : Type} {enc : TypeId × Value → H} {w : World} {fuel : Nat} {C : Array Value} {x : DataW H × List MemPlace}
    (hsz : C.size = Try.prog.cellsOf 26) (hf : DataW.trod enc Try.prog w 0 (fun _ => true) true fuel 26 (Value.agg C).cells.toList = some x) : IsStE w C := by
  rw [show Try.prog.cellsOf 26 = 234 from by kernel_rfl] at hsz
  obtain ⟨xs, n, _, _, _, hxl, hel⟩ := DataW.trod_struct Try.underlying26 hf
  have hxl' : xs.length = 11 := hxl
  have g0 : DataW.trod enc Try.prog w 0 (fun _ => true) true n 3 (((Value.agg C).cells.toList.drop 0).take (Try.prog.cellsOf 3)) = xs[0]? := hel 0 _ rfl
  have g1 : DataW.trod enc Try.prog w 0 (fun _ => true) true n 22 (((Value.agg C).cells.toList.drop 1).take (Try.prog.cellsOf 22)) = xs[1]? := hel 1 _ rfl
  have g2 : DataW.trod enc Try.prog w 0 (fun _ => true) true n 24 (((Value.agg C).cells.toList.drop 2).take (Try.prog.cellsOf 24)) = xs[2]? := hel 2 _ rfl
  have g3 : DataW.trod enc Try.prog w 0 (fun _ => true) true n 3 (((Value.agg C).cells.toList.drop 226).take (Try.prog.cellsOf 3)) = xs[3]? := hel 3 _ rfl
  have g4 : DataW.trod enc Try.prog w 0 (fun _ => true) true n 3 (((Value.agg C).cells.toList.drop 227).take (Try.prog.cellsOf 3)) = xs[4]? := hel 4 _ rfl
  have g5 : DataW.trod enc Try.prog w 0 (fun _ => true) true n 3 (((Value.agg C).cells.toList.drop 228).take (Try.prog.cellsOf 3)) = xs[5]? := hel 5 _ rfl
  have g6 : DataW.trod enc Try.prog w 0 (fun _ => true) true n 3 (((Value.agg C).cells.toList.drop 229).take (Try.prog.cellsOf 3)) = xs[6]? := hel 6 _ rfl
  have g7 : DataW.trod enc Try.prog w 0 (fun _ => true) true n 4 (((Value.agg C).cells.toList.drop 230).take (Try.prog.cellsOf 4)) = xs[7]? := hel 7 _ rfl
  have g8 : DataW.trod enc Try.prog w 0 (fun _ => true) true n 22 (((Value.agg C).cells.toList.drop 231).take (Try.prog.cellsOf 22)) = xs[8]? := hel 8 _ rfl
  have g9 : DataW.trod enc Try.prog w 0 (fun _ => true) true n 22 (((Value.agg C).cells.toList.drop 232).take (Try.prog.cellsOf 22)) = xs[9]? := hel 9 _ rfl
  have g10 : DataW.trod enc Try.prog w 0 (fun _ => true) true n 3 (((Value.agg C).cells.toList.drop 233).take (Try.prog.cellsOf 3)) = xs[10]? := hel 10 _ rfl
  simp only [show Try.prog.cellsOf 3 = 1 from by kernel_rfl, show Try.prog.cellsOf 4 = 1 from by kernel_rfl, show Try.prog.cellsOf 22 = 1 from by kernel_rfl, show Try.prog.cellsOf 24 = 224 from by kernel_rfl] at g0 g1 g2 g3 g4 g5 g6 g7 g8 g9 g10
  rw [List.getElem?_eq_getElem (by omega)] at g0 g1 g2 g3 g4 g5 g6 g7 g8 g9 g10
  obtain ⟨ph, k0⟩ := one_int g0
  obtain ⟨lg, lgl, k1, s1⟩ := one_bytes g1
  obtain ⟨sm, hl, k2⟩ := one_sums g2
  obtain ⟨a, k3⟩ := one_int g3
  obtain ⟨b, k4⟩ := one_int g4
  obtain ⟨c, k5⟩ := one_int g5
  obtain ⟨d, k6⟩ := one_int g6
  obtain ⟨sl, k7⟩ := one_bool g7
  obtain ⟨pt, ptl, k8, s2⟩ := one_bytes g8
  obtain ⟨us, usl, k9, s3⟩ := one_bytes g9
  obtain ⟨al, k10⟩ := one_int g10
  simp only [Value.cells, Array.getElem?_toList] at k0 k1 k2 k3 k4 k5 k6 k7 k8 k9 k10
  exact ⟨⟨ph, lgl, sm, a, b, c, d, sl, ptl, usl, al⟩, lg, pt, us, ⟨hsz, hl, k0, k1, k2, k3, k4, k5, k6, k7, k8, k9, k10⟩, s1, s2, s3⟩
end Go.Proofs.Ytfilngbedlkhjaa
