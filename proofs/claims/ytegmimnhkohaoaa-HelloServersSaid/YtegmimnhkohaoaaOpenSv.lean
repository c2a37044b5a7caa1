/-
  How the Server that is handed over reads in the words of the walk. No condition.
-/
import Derived.Test.YtegmimnhkohaoaaHelS
import Derived.Test.YtegmimnhkohaoaaOpen
import Derived.OpenShut
import Derived.WalkKit
import Derived.ProofKit
namespace Go.Proofs.Ytegmimnhkohaoaa
open Go.RowKit Go.Kx Go.ChangeShapes Go.WideShapes Go.ChangeAt
set_option linter.unusedVariables false
set_option linter.unusedSimpArgs false

theorem take_one {cs : List Value} {o : Nat} {v : Value} (h : (cs.drop o).take 1 = [v]) : cs[o]? = some v := by
  have := congrArg (fun l => l[0]?) h
  simpa using this
section
variable {H : Type} {enc : TypeId × Value → H} {w : World} {fuel : Nat} {cs : List Value} {o : Nat} {x : DataW H × List MemPlace}
theorem one_int (h : DataW.trod enc Try.prog w 0 (fun _ => true) true fuel 3 ((cs.drop o).take 1) = some x) : ∃ n : Int, cs[o]? = some (.int .i64 n) := by
  obtain ⟨n, hn, _⟩ := DataW.trod_int Try.underlying3 h
  exact ⟨n, take_one hn⟩
theorem one_bool (h : DataW.trod enc Try.prog w 0 (fun _ => true) true fuel 4 ((cs.drop o).take 1) = some x) : ∃ b : Bool, cs[o]? = some (.bool b) := by
  obtain ⟨n, hn, _⟩ := DataW.trod_bool Try.underlying4 h
  exact ⟨n, take_one hn⟩
theorem one_bytes (h : DataW.trod enc Try.prog w 0 (fun _ => true) true fuel 23 ((cs.drop o).take 1) = some x) : ∃ p n c l, cs[o]? = some (.slice p n c) ∧ Sl w w.heap.size p n c l ∧ n ≤ c ∧ c ≤ maxLen := by
  rcases open_ints Try.underlying23 Try.underlying5 (by kernel_rfl) h with ⟨hcs, _⟩ | ⟨y, l, c, zs, hcs, _, hl, hm, hz, _, hcell, hwz⟩
  · exact ⟨none, 0, 0, [], take_one hcs, ⟨rfl, Rd.nil _ _ _, fun _ => rfl⟩, Nat.le_refl _, by unfold maxLen; omega⟩
  · have hr : IsRow .u8 w (some y) l c zs := .inr ⟨y, rfl, hl, hm, by simpa using hz, hcell, hwz⟩
    obtain ⟨b, h1, h2, h3, h4, h5⟩ := open_bytes hr
    exact ⟨some y, l, c, b, take_one hcs, ⟨h2, h1, h5⟩, h3, h4⟩
set_option maxRecDepth 100000 in
theorem one_arr32 (h : DataW.trod enc Try.prog w 0 (fun _ => true) true fuel 22 ((cs.drop o).take 32) = some x) : ∃ sm : List UInt8, sm.length = 32 ∧ ∀ i (h : i < sm.length), cs[o + i]? = some (B8 sm[i]) := by
  have key : ∀ j : Nat, ∃ b : UInt8, j < 32 → cs[o + j]? = some (B8 b) := by
    intro j
    by_cases hj : j < 32
    · obtain ⟨ys, m2, rfl, _, _, hyl, hel2⟩ := DataW.trod_array Try.underlying22 h
      have h2 := hel2 j (by omega)
      rw [List.getElem?_eq_getElem (by omega), show Try.prog.cellsOf 5 = 1 from by kernel_rfl] at h2
      obtain ⟨n, hn, _, hwf⟩ := DataW.trod_int Try.underlying5 h2
      have h3 := take_one hn
      simp only [List.getElem?_take, List.getElem?_drop, Nat.mul_one] at h3
      have hb : 0 ≤ n ∧ n ≤ 255 := by have := bounds_u8 hwf; omega
      rw [if_pos (by omega)] at h3
      refine ⟨UInt8.ofNat n.toNat, fun _ => ?_⟩
      rw [h3]
      unfold B8
      congr 2
      rw [UInt8.toNat_ofNat']
      omega
    · exact ⟨0, fun h => absurd h hj⟩
  obtain ⟨f, hf⟩ := Classical.axiomOfChoice key
  refine ⟨(List.range 32).map f, by rw [List.length_map, List.length_range], fun i hi => ?_⟩
  rw [List.length_map, List.length_range] at hi
  rw [hf i hi]
  simp
end

/-- It is a Server's. -/
def IsSvE (w : World) (C : Array Value) : Prop := ∃ s z, C = svV s z ∧ IsSv w w.heap.size s z
set_option maxRecDepth 100000 in
theorem sv_of {H : Type} {enc : TypeId × Value → H} {w : World} {fuel : Nat} {C : Array Value} {x : DataW H × List MemPlace}
    (hsz : C.size = Try.prog.cellsOf 27) (hf : DataW.trod enc Try.prog w 0 (fun _ => true) true fuel 27 (Value.agg C).cells.toList = some x) : IsSvE w C := by
  rw [show Try.prog.cellsOf 27 = 40 from by kernel_rfl] at hsz
  obtain ⟨xs, n, _, _, _, hxl, hel⟩ := DataW.trod_struct Try.underlying27 hf
  have hxl' : xs.length = 8 := hxl
  have g0 : DataW.trod enc Try.prog w 0 (fun _ => true) true n 22 (((Value.agg C).cells.toList.drop 0).take (Try.prog.cellsOf 22)) = xs[0]? := hel 0 _ rfl
  have g1 : DataW.trod enc Try.prog w 0 (fun _ => true) true n 23 (((Value.agg C).cells.toList.drop 32).take (Try.prog.cellsOf 23)) = xs[1]? := hel 1 _ rfl
  have g2 : DataW.trod enc Try.prog w 0 (fun _ => true) true n 3 (((Value.agg C).cells.toList.drop 33).take (Try.prog.cellsOf 3)) = xs[2]? := hel 2 _ rfl
  have g3 : DataW.trod enc Try.prog w 0 (fun _ => true) true n 3 (((Value.agg C).cells.toList.drop 34).take (Try.prog.cellsOf 3)) = xs[3]? := hel 3 _ rfl
  have g4 : DataW.trod enc Try.prog w 0 (fun _ => true) true n 25 (((Value.agg C).cells.toList.drop 35).take (Try.prog.cellsOf 25)) = xs[4]? := hel 4 _ rfl
  have g5 : DataW.trod enc Try.prog w 0 (fun _ => true) true n 4 (((Value.agg C).cells.toList.drop 37).take (Try.prog.cellsOf 4)) = xs[5]? := hel 5 _ rfl
  have g6 : DataW.trod enc Try.prog w 0 (fun _ => true) true n 23 (((Value.agg C).cells.toList.drop 38).take (Try.prog.cellsOf 23)) = xs[6]? := hel 6 _ rfl
  have g7 : DataW.trod enc Try.prog w 0 (fun _ => true) true n 3 (((Value.agg C).cells.toList.drop 39).take (Try.prog.cellsOf 3)) = xs[7]? := hel 7 _ rfl
  simp only [show Try.prog.cellsOf 3 = 1 from by kernel_rfl, show Try.prog.cellsOf 4 = 1 from by kernel_rfl, show Try.prog.cellsOf 23 = 1 from by kernel_rfl, show Try.prog.cellsOf 22 = 32 from by kernel_rfl, show Try.prog.cellsOf 25 = 2 from by kernel_rfl] at g0 g1 g2 g3 g4 g5 g6 g7
  rw [List.getElem?_eq_getElem (by omega)] at g0 g1 g2 g3 g4 g5 g6 g7
  obtain ⟨R, hR, k0⟩ := one_arr32 g0
  obtain ⟨p1, n1, c1, ses, k1, s1, -, -⟩ := one_bytes g1
  obtain ⟨suite, k2⟩ := one_int g2
  obtain ⟨ver, k3⟩ := one_int g3
  obtain ⟨ys, m, _, _, _, hyl, hel4⟩ := DataW.trod_struct Try.underlying25 g4
  have hyl' : ys.length = 2 := hyl
  have f0 : DataW.trod enc Try.prog w 0 (fun _ => true) true m 3 (((((Value.agg C).cells.toList.drop 35).take 2).drop 0).take (Try.prog.cellsOf 3)) = ys[0]? := hel4 0 _ rfl
  have f1 : DataW.trod enc Try.prog w 0 (fun _ => true) true m 23 (((((Value.agg C).cells.toList.drop 35).take 2).drop 1).take (Try.prog.cellsOf 23)) = ys[1]? := hel4 1 _ rfl
  simp only [show Try.prog.cellsOf 3 = 1 from by kernel_rfl, show Try.prog.cellsOf 23 = 1 from by kernel_rfl] at f0 f1
  rw [List.getElem?_eq_getElem (by omega)] at f0 f1
  obtain ⟨grp, k4⟩ := one_int f0
  obtain ⟨p2, n2, c2, key, k5, s2, -, -⟩ := one_bytes f1
  obtain ⟨re, k6⟩ := one_bool g5
  obtain ⟨p3, n3, c3, cook, k7, s3, -, -⟩ := one_bytes g6
  obtain ⟨psk, k8⟩ := one_int g7
  simp only [Value.cells, Array.getElem?_toList, List.getElem?_take, List.getElem?_drop] at k0 k1 k2 k3 k4 k5 k6 k7 k8
  rw [if_pos (by omega)] at k4 k5
  refine ⟨⟨R, ses, suite, ver, grp, key, re, cook, psk⟩, ⟨p1, n1, c1, p2, n2, c2, p3, n3, c3⟩, ?_, ⟨hR, s1, s2, s3⟩⟩
  apply Array.ext'
  apply List.ext_getElem?
  intro k
  have hs : (svV ⟨R, ses, suite, ver, grp, key, re, cook, psk⟩ ⟨p1, n1, c1, p2, n2, c2, p3, n3, c3⟩).toList = R.map B8 ++ [.slice p1 n1 c1, .int .i64 suite, .int .i64 ver, .int .i64 grp, .slice p2 n2 c2, .bool re, .slice p3 n3 c3, .int .i64 psk] := rfl
  rw [hs, Array.getElem?_toList]
  by_cases hk : k < 32
  · rw [List.getElem?_append_left (by rw [List.length_map, hR]; exact hk)]
    have h := k0 k (by omega)
    rw [Nat.zero_add] at h
    rw [h]
    simp [hR, hk]
  · rw [List.getElem?_append_right (by rw [List.length_map, hR]; omega), List.length_map, hR]
    have hc : k = 32 ∨ k = 33 ∨ k = 34 ∨ k = 35 ∨ k = 36 ∨ k = 37 ∨ k = 38 ∨ k = 39 ∨ 40 ≤ k := by omega
    rcases hc with rfl | rfl | rfl | rfl | rfl | rfl | rfl | rfl | hc
    · exact k1
    · exact k2
    · exact k3
    · exact k4
    · exact k5
    · exact k6
    · exact k7
    · exact k8
    · rw [Array.getElem?_eq_none (by omega), List.getElem?_eq_none (by simp; omega)]
end Go.Proofs.Ytegmimnhkohaoaa
