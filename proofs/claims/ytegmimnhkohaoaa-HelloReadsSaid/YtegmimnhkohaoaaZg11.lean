/-
  How the Server that is handed over reads in the words of the walk. No condition.
-/
import Derived.Test.YtegmimnhkohaoaaZg4
import Derived.Test.YtegmimnhkohaoaaZg1
import Derived.OpenShut
import Derived.WalkKit
import Derived.ProofKit
import Derived.Deep.Matrix
import Derived.Test.YtegmimnhkohaoaaZRpB
import Derived.SizedLaws
import Derived.Test.YtegmimnhkohaoaaZLawHE
namespace Go.Proofs.Ytegmimnhkohaoaa
open Go.RowKit Go.Kx Go.ChangeShapes Go.WideShapes Go.ChangeAt
set_option linter.unusedVariables false
set_option linter.unusedSimpArgs false

theorem take_one {cs : List Value} {o : Nat} {v : Value} (h : (cs.drop o).take 1 = [v]) : cs[o]? = some v := by
  have := congrArg (fun l => l[0]?) h
  simpa using this
section
variable {H : Type} {enc : TypeId × Value → H} {w : World} {fuel : Nat} {cs : List Value} {o : Nat} {x : DataW H × List MemPlace}
theorem one_int (h : DataW.trod enc Try.prog w 0 (fun _ => true) true fuel 3 ((cs.drop o).take 1) = some x) : ∃ n : Int, cs[o]? = some (.int .i64 n) := by
  obtain ⟨n, hn, _⟩ := DataW.trod_int Try.underlying3 h
  exact ⟨n, take_one hn⟩
theorem one_bool (h : DataW.trod enc Try.prog w 0 (fun _ => true) true fuel 4 ((cs.drop o).take 1) = some x) : ∃ b : Bool, cs[o]? = some (.bool b) := by
  obtain ⟨n, hn, _⟩ := DataW.trod_bool Try.underlying4 h
  exact ⟨n, take_one hn⟩
theorem one_bytes (h : DataW.trod enc Try.prog w 0 (fun _ => true) true fuel 23 ((cs.drop o).take 1) = some x) : ∃ p n c l, cs[o]? = some (.slice p n c) ∧ Sl w w.heap.size p n c l ∧ n ≤ c ∧ c ≤ maxLen := by
  rcases open_ints Try.underlying23 Try.underlying5 (by kernel_rfl) h with ⟨hcs, _⟩ | ⟨y, l, c, zs, hcs, _, hl, hm, hz, _, hcell, hwz⟩
  · exact ⟨none, 0, 0, [], take_one hcs, ⟨rfl, Rd.nil _ _ _, fun _ => rfl⟩, Nat.le_refl _, by unfold maxLen; omega⟩
  · have hr : IsRow .u8 w (some y) l c zs := .inr ⟨y, rfl, hl, hm, by simpa using hz, hcell, hwz⟩
    obtain ⟨b, h1, h2, h3, h4, h5⟩ := open_bytes hr
    exact ⟨some y, l, c, b, take_one hcs, ⟨h2, h1, h5⟩, h3, h4⟩
set_option maxRecDepth 100000 in
theorem one_arr32 (h : DataW.trod enc Try.prog w 0 (fun _ => true) true fuel 22 ((cs.drop o).take 32) = some x) : ∃ sm : List UInt8, sm.length = 32 ∧ ∀ i (h : i < sm.length), cs[o + i]? = some (B8 sm[i]) := by
  have key : ∀ j : Nat, ∃ b : UInt8, j < 32 → cs[o + j]? = some (B8 b) := by
    intro j
    by_cases hj : j < 32
    · obtain ⟨ys, m2, rfl, _, _, hyl, hel2⟩ := DataW.trod_array Try.underlying22 h
      have h2 := hel2 j (by omega)
      rw [List.getElem?_eq_getElem (by omega), show Try.prog.cellsOf 5 = 1 from by kernel_rfl] at h2
      obtain ⟨n, hn, _, hwf⟩ := DataW.trod_int Try.underlying5 h2
      have h3 := take_one hn
      simp only [List.getElem?_take, List.getElem?_drop, Nat.mul_one] at h3
      have hb : 0 ≤ n ∧ n ≤ 255 := by have := bounds_u8 hwf; omega
      rw [if_pos (by omega)] at h3
      refine ⟨UInt8.ofNat n.toNat, fun _ => ?_⟩
      rw [h3]
      unfold B8
      congr 2
      rw [UInt8.toNat_ofNat']
      omega
    · exact ⟨0, fun h => absurd h hj⟩
  obtain ⟨f, hf⟩ := Classical.axiomOfChoice key
  refine ⟨(List.range 32).map f, by rw [List.length_map, List.length_range], fun i hi => ?_⟩
  rw [List.length_map, List.length_range] at hi
  rw [hf i hi]
  simp
end

/-- It is a Server's. -/
def IsSvE (w : World) (C : Array Value) : Prop := ∃ s z, C = svV s z ∧ IsSv w w.heap.size s z
set_option maxRecDepth 100000 in
theorem sv_of {H : Type} {enc : TypeId × Value → H} {w : World} {fuel : Nat} {C : Array Value} {x : DataW H × List MemPlace}
    (hsz : C.size = Try.prog.cellsOf 27) (hf : DataW.trod enc Try.prog w 0 (fun _ => true) true fuel 27 (Value.agg C).cells.toList = some x) : IsSvE w C := by
  rw [show Try.prog.cellsOf 27 = 40 from by kernel_rfl] at hsz
  obtain ⟨xs, n, _, _, _, hxl, hel⟩ := DataW.trod_struct Try.underlying27 hf
  have hxl' : xs.length = 8 := hxl
  have g0 : DataW.trod enc Try.prog w 0 (fun _ => true) true n 22 (((Value.agg C).cells.toList.drop 0).take (Try.prog.cellsOf 22)) = xs[0]? := hel 0 _ rfl
  have g1 : DataW.trod enc Try.prog w 0 (fun _ => true) true n 23 (((Value.agg C).cells.toList.drop 32).take (Try.prog.cellsOf 23)) = xs[1]? := hel 1 _ rfl
  have g2 : DataW.trod enc Try.prog w 0 (fun _ => true) true n 3 (((Value.agg C).cells.toList.drop 33).take (Try.prog.cellsOf 3)) = xs[2]? := hel 2 _ rfl
  have g3 : DataW.trod enc Try.prog w 0 (fun _ => true) true n 3 (((Value.agg C).cells.toList.drop 34).take (Try.prog.cellsOf 3)) = xs[3]? := hel 3 _ rfl
  have g4 : DataW.trod enc Try.prog w 0 (fun _ => true) true n 25 (((Value.agg C).cells.toList.drop 35).take (Try.prog.cellsOf 25)) = xs[4]? := hel 4 _ rfl
  have g5 : DataW.trod enc Try.prog w 0 (fun _ => true) true n 4 (((Value.agg C).cells.toList.drop 37).take (Try.prog.cellsOf 4)) = xs[5]? := hel 5 _ rfl
  have g6 : DataW.trod enc Try.prog w 0 (fun _ => true) true n 23 (((Value.agg C).cells.toList.drop 38).take (Try.prog.cellsOf 23)) = xs[6]? := hel 6 _ rfl
  have g7 : DataW.trod enc Try.prog w 0 (fun _ => true) true n 3 (((Value.agg C).cells.toList.drop 39).take (Try.prog.cellsOf 3)) = xs[7]? := hel 7 _ rfl
  simp only [show Try.prog.cellsOf 3 = 1 from by kernel_rfl, show Try.prog.cellsOf 4 = 1 from by kernel_rfl, show Try.prog.cellsOf 23 = 1 from by kernel_rfl, show Try.prog.cellsOf 22 = 32 from by kernel_rfl, show Try.prog.cellsOf 25 = 2 from by kernel_rfl] at g0 g1 g2 g3 g4 g5 g6 g7
  rw [List.getElem?_eq_getElem (by omega)] at g0 g1 g2 g3 g4 g5 g6 g7
  obtain ⟨R, hR, k0⟩ := one_arr32 g0
  obtain ⟨p1, n1, c1, ses, k1, s1, -, -⟩ := one_bytes g1
  obtain ⟨suite, k2⟩ := one_int g2
  obtain ⟨ver, k3⟩ := one_int g3
  obtain ⟨ys, m, _, _, _, hyl, hel4⟩ := DataW.trod_struct Try.underlying25 g4
  have hyl' : ys.length = 2 := hyl
  have f0 : DataW.trod enc Try.prog w 0 (fun _ => true) true m 3 (((((Value.agg C).cells.toList.drop 35).take 2).drop 0).take (Try.prog.cellsOf 3)) = ys[0]? := hel4 0 _ rfl
  have f1 : DataW.trod enc Try.prog w 0 (fun _ => true) true m 23 (((((Value.agg C).cells.toList.drop 35).take 2).drop 1).take (Try.prog.cellsOf 23)) = ys[1]? := hel4 1 _ rfl
  simp only [show Try.prog.cellsOf 3 = 1 from by kernel_rfl, show Try.prog.cellsOf 23 = 1 from by kernel_rfl] at f0 f1
  rw [List.getElem?_eq_getElem (by omega)] at f0 f1
  obtain ⟨grp, k4⟩ := one_int f0
  obtain ⟨p2, n2, c2, key, k5, s2, -, -⟩ := one_bytes f1
  obtain ⟨re, k6⟩ := one_bool g5
  obtain ⟨p3, n3, c3, cook, k7, s3, -, -⟩ := one_bytes g6
  obtain ⟨psk, k8⟩ := one_int g7
  simp only [Value.cells, Array.getElem?_toList, List.getElem?_take, List.getElem?_drop] at k0 k1 k2 k3 k4 k5 k6 k7 k8
  rw [if_pos (by omega)] at k4 k5
  refine ⟨⟨R, ses, suite, ver, grp, key, re, cook, psk⟩, ⟨p1, n1, c1, p2, n2, c2, p3, n3, c3⟩, ?_, ⟨hR, s1, s2, s3⟩⟩
  apply Array.ext'
  apply List.ext_getElem?
  intro k
  have hs : (svV ⟨R, ses, suite, ver, grp, key, re, cook, psk⟩ ⟨p1, n1, c1, p2, n2, c2, p3, n3, c3⟩).toList = R.map B8 ++ [.slice p1 n1 c1, .int .i64 suite, .int .i64 ver, .int .i64 grp, .slice p2 n2 c2, .bool re, .slice p3 n3 c3, .int .i64 psk] := rfl
  rw [hs, Array.getElem?_toList]
  by_cases hk : k < 32
  · rw [List.getElem?_append_left (by rw [List.length_map, hR]; exact hk)]
    have h := k0 k (by omega)
    rw [Nat.zero_add] at h
    rw [h]
    simp [hR, hk]
  · rw [List.getElem?_append_right (by rw [List.length_map, hR]; omega), List.length_map, hR]
    have hc : k = 32 ∨ k = 33 ∨ k = 34 ∨ k = 35 ∨ k = 36 ∨ k = 37 ∨ k = 38 ∨ k = 39 ∨ 40 ≤ k := by omega
    rcases hc with rfl | rfl | rfl | rfl | rfl | rfl | rfl | rfl | hc
    · exact k1
    · exact k2
    · exact k3
    · exact k4
    · exact k5
    · exact k6
    · exact k7
    · exact k8
    · rw [Array.getElem?_eq_none (by omega), List.getElem?_eq_none (by simp; omega)]
end Go.Proofs.Ytegmimnhkohaoaa
/-
  How the Client that is handed over reads in the words of the walk, and what the bound on what comes in gives. No condition.
-/
namespace Go.Proofs.Ytegmimnhkohaoaa
open Go.RowKit Go.Kx Go.Deep Go.ChangeShapes Go.WideShapes Go.ChangeAt
set_option linter.unusedVariables false
set_option linter.unusedSimpArgs false
set_option maxRecDepth 100000

/-! ### The bound -/
theorem bulk_one {H : Type} (d : DataW H) : 1 ≤ Rows.uptoBulk d := by
  cases d with
  | lit l => cases l <;> simp [Rows.uptoBulk]
  | nil => simp [Rows.uptoBulk]
  | ptr d => simp [Rows.uptoBulk]
  | slice elems spare => simp [Rows.uptoBulk]
  | agg parts => simp [Rows.uptoBulk]
  | iface t d => simp [Rows.uptoBulk]
  | map entries => simp [Rows.uptoBulk]
  | held h => simp [Rows.uptoBulk]
theorem bulk_part {H : Type} {d : DataW H} {l : List (DataW H)} (h : d ∈ l) : Rows.uptoBulk d ≤ Rows.uptoBulkAll l := by
  induction l with
  | nil => cases h
  | cons x r ih =>
    simp only [Rows.uptoBulkAll]
    cases List.mem_cons.1 h with
    | inl e => subst e; omega
    | inr e => have := ih e; omega
theorem bulk_len {H : Type} (l : List (DataW H)) : l.length ≤ Rows.uptoBulkAll l := by
  induction l with
  | nil => simp [Rows.uptoBulkAll]
  | cons x r ih => have := bulk_one x; simp only [Rows.uptoBulkAll, List.length_cons]; omega
/-- An element, or the count, of a slice's reading. -/
theorem bulk_elem {H : Type} (D : Nat → DataW H) (len : Nat) (sp : List (DataW H)) : len ≤ Rows.uptoBulk (.slice ((List.range len).map D) sp) ∧ ∀ i, i < len → Rows.uptoBulk (D i) ≤ Rows.uptoBulk (.slice ((List.range len).map D) sp) := by
  simp only [Rows.uptoBulk]
  have h := bulk_len ((List.range len).map D)
  rw [List.length_map, List.length_range] at h
  refine ⟨by omega, fun i hi => ?_⟩
  have := bulk_part (d := D i) (l := (List.range len).map D) (List.mem_map.2 ⟨i, List.mem_range.2 hi, rfl⟩)
  omega
theorem bulk_agg {H : Type} {d : DataW H} {l : List (DataW H)} (h : d ∈ l) : Rows.uptoBulk d ≤ Rows.uptoBulk (.agg l) := by
  simp only [Rows.uptoBulk]
  have := bulk_part h
  omega

section
variable {H : Type} {enc : TypeId × Value → H} {w : World} {fuel : Nat} {cs : List Value} {o : Nat} {x : DataW H × List MemPlace}
/-- What is told of a slice that came in. -/
structure SlU (w : World) (p : Option Addr) (n c len m : Nat) : Prop where
  len : len = n
  nil : p = none → c = 0
  le : n ≤ c
  max : c ≤ maxLen
  few : n ≤ m
theorem one_bytesU (h : DataW.trod enc Try.prog w 0 (fun _ => true) true fuel 23 ((cs.drop o).take 1) = some x) : ∃ (p : Option Addr) (n c : Nat) (l : List UInt8), cs[o]? = some (.slice p n c) ∧ Rd w (· < w.heap.size) p l ∧ SlU w p n c l.length (Rows.uptoBulk x.1) := by
  rcases open_ints Try.underlying23 Try.underlying5 (by kernel_rfl) h with ⟨hcs, rfl⟩ | ⟨y, l, c, zs, hcs, _, hl, hm, hz, rfl, hcell, hwz⟩
  · exact ⟨none, 0, 0, [], take_one hcs, Rd.nil _ _ _, ⟨rfl, fun _ => rfl, Nat.le_refl _, by unfold maxLen; omega, by omega⟩⟩
  · have hz' : zs.length = c := by simpa using hz
    have hr : IsRow .u8 w (some y) l c zs := .inr ⟨y, rfl, hl, hm, hz', hcell, hwz⟩
    obtain ⟨b, h1, h2, h3, h4, h5⟩ := open_bytes hr
    refine ⟨some y, l, c, b, take_one hcs, h1, ⟨h2, h5, h3, h4, ?_⟩⟩
    have := bulk_len (lits (H := H) .u8 (zs.take l))
    simp only [lits, List.length_map, List.length_take] at this
    simp only [Rows.uptoBulk, lits]
    omega
theorem one_intsU (h : DataW.trod enc Try.prog w 0 (fun _ => true) true fuel 43 ((cs.drop o).take 1) = some x) : ∃ (p : Option Addr) (n c : Nat) (l : List Int), cs[o]? = some (.slice p n c) ∧ RdI w (· < w.heap.size) p l ∧ SlU w p n c l.length (Rows.uptoBulk x.1) := by
  rcases open_ints Try.underlying43 Try.underlying3 (by kernel_rfl) h with ⟨hcs, rfl⟩ | ⟨y, l, c, zs, hcs, _, hl, hm, hz, rfl, hcell, hwz⟩
  · exact ⟨none, 0, 0, [], take_one hcs, RdV.nil _ _ _, ⟨rfl, fun _ => rfl, Nat.le_refl _, by unfold maxLen; omega, by omega⟩⟩
  · have hz' : zs.length = c := by simpa using hz
    refine ⟨some y, l, c, zs.take l, take_one hcs, ?_, ⟨by rw [List.length_take]; omega, fun h => (by cases h), hl, hm, ?_⟩⟩
    · intro i hi
      have hi' : i < l := by rw [List.length_map, List.length_take] at hi; omega
      have hc := hcell i (by omega)
      refine ⟨y, rfl, by have := World.block_lt_of_cell? w _ hc; rwa [add_block] at this, ?_⟩
      rw [hc]
      have hg : zs.getD i 0 = zs[i]'(by omega) := by rw [List.getD_eq_getElem?_getD, List.getElem?_eq_getElem (by omega)]; rfl
      rw [hg]
      simp
    · have := bulk_len (lits (H := H) .i64 (zs.take l))
      simp only [lits, List.length_map, List.length_take] at this
      simp only [Rows.uptoBulk, lits]
      omega
theorem addr_mk {a : Addr} {v : Value} (h : w.cell? (a.add 0) = some v) : ∃ g o, a = ⟨g, o, none⟩ ∧ ∀ j, a.add j = ⟨g, o + j, none⟩ := by
  have hs : a.spot = none := by
    have := World.cell?_spot h
    simpa [Addr.add] using this
  obtain ⟨g, o, s⟩ := a
  obtain rfl : s = none := hs
  exact ⟨g, o, rfl, fun j => by unfold Addr.add; split <;> simp_all⟩
theorem share_at {a : Addr} {cs' : List Value} {n : Nat} {y : DataW H × List MemPlace} (h1 : w.cells? 0 a 2 = some cs') (h2 : DataW.trod enc Try.prog w 0 (fun _ => true) true n 25 cs' = some y) :
    ∃ (gr : Int) (q : Option Addr) (m c : Nat) (l : List UInt8), w.cell? (a.add 0) = some (.int .i64 gr) ∧ w.cell? (a.add 1) = some (.slice q m c) ∧ Rd w (· < w.heap.size) q l ∧ SlU w q m c l.length (Rows.uptoBulk y.1) := by
  obtain ⟨_, hlen, hcell⟩ := World.cells?_some h1
  obtain ⟨xs, k, _, rfl, _, hxl, hf⟩ := DataW.trod_struct Try.underlying25 h2
  have hxl' : xs.length = 2 := hxl
  obtain ⟨y0, y1, rfl⟩ : ∃ a b, xs = [a, b] := by
    match xs, hxl' with
    | [a, b], _ => exact ⟨a, b, rfl⟩
  have g0 : DataW.trod enc Try.prog w 0 (fun _ => true) true k 3 ((cs'.drop 0).take (Try.prog.cellsOf 3)) = some y0 := hf 0 _ rfl
  have g1 : DataW.trod enc Try.prog w 0 (fun _ => true) true k 23 ((cs'.drop 1).take (Try.prog.cellsOf 23)) = some y1 := hf 1 _ rfl
  simp only [show Try.prog.cellsOf 3 = 1 from by kernel_rfl, show Try.prog.cellsOf 23 = 1 from by kernel_rfl] at g0 g1
  obtain ⟨gr, e0⟩ := one_int g0
  obtain ⟨q, m, c, l, e1, hr, hs⟩ := one_bytesU g1
  have hb := bulk_agg (d := y1.1) (l := [y0, y1].map (·.1)) (by simp)
  exact ⟨gr, q, m, c, l, (hcell 0 (by omega)).trans e0, (hcell 1 (by omega)).trans e1, hr, ⟨hs.len, hs.nil, hs.le, hs.max, Nat.le_trans hs.few hb⟩⟩
theorem id_at {a : Addr} {cs' : List Value} {n : Nat} {y : DataW H × List MemPlace} (h1 : w.cells? 0 a 2 = some cs') (h2 : DataW.trod enc Try.prog w 0 (fun _ => true) true n 51 cs' = some y) :
    ∃ (gr : Int) (q : Option Addr) (m c : Nat) (l : List UInt8), w.cell? (a.add 0) = some (.slice q m c) ∧ w.cell? (a.add 1) = some (.int .i64 gr) ∧ Rd w (· < w.heap.size) q l ∧ SlU w q m c l.length (Rows.uptoBulk y.1) := by
  obtain ⟨_, hlen, hcell⟩ := World.cells?_some h1
  obtain ⟨xs, k, _, rfl, _, hxl, hf⟩ := DataW.trod_struct Try.underlying51 h2
  have hxl' : xs.length = 2 := hxl
  obtain ⟨y0, y1, rfl⟩ : ∃ a b, xs = [a, b] := by
    match xs, hxl' with
    | [a, b], _ => exact ⟨a, b, rfl⟩
  have g0 : DataW.trod enc Try.prog w 0 (fun _ => true) true k 23 ((cs'.drop 0).take (Try.prog.cellsOf 23)) = some y0 := hf 0 _ rfl
  have g1 : DataW.trod enc Try.prog w 0 (fun _ => true) true k 3 ((cs'.drop 1).take (Try.prog.cellsOf 3)) = some y1 := hf 1 _ rfl
  simp only [show Try.prog.cellsOf 3 = 1 from by kernel_rfl, show Try.prog.cellsOf 23 = 1 from by kernel_rfl] at g0 g1
  obtain ⟨q, m, c, l, e0, hr, hs⟩ := one_bytesU g0
  obtain ⟨gr, e1⟩ := one_int g1
  have hb := bulk_agg (d := y0.1) (l := [y0, y1].map (·.1)) (by simp)
  exact ⟨gr, q, m, c, l, (hcell 0 (by omega)).trans e0, (hcell 1 (by omega)).trans e1, hr, ⟨hs.len, hs.nil, hs.le, hs.max, Nat.le_trans hs.few hb⟩⟩
theorem add_add' (a : Addr) (i j : Nat) : (a.add i).add j = a.add (i + j) := Go.Deep.add_add a i j
theorem one_sharesU (h : DataW.trod enc Try.prog w 0 (fun _ => true) true fuel 44 ((cs.drop o).take 1) = some x) : ∃ (p : Option Addr) (n c : Nat) (l : List (Int × List UInt8)), cs[o]? = some (.slice p n c) ∧ ShAt w (· < w.heap.size) p l ∧ SlU w p n c l.length (Rows.uptoBulk x.1) ∧ ∀ t ∈ l, t.2.length ≤ Rows.uptoBulk x.1 := by
  rcases open_slice Try.underlying44 h with ⟨hcs, rfl⟩ | ⟨a, len, cap, m, n, D, Pl, hcs, _, hl, hm, hmm, rfl, hx⟩
  · exact ⟨none, 0, 0, [], take_one hcs, fun i hi => absurd hi (by simp), ⟨rfl, fun _ => rfl, Nat.le_refl _, by unfold maxLen; omega, by omega⟩, fun t h => by cases h⟩
  · simp only [if_true] at hmm
    have hmm' := hmm.symm
    subst hmm'
    rw [show Try.prog.cellsOf 25 = 2 from by kernel_rfl] at hx
    obtain ⟨f, hf⟩ := choose_lt (n := len) (α := Int × (Option Addr × Nat × Nat) × List UInt8) (p := fun i t => w.cell? ((a.add (i * 2)).add 0) = some (.int .i64 t.1) ∧ w.cell? ((a.add (i * 2)).add 1) = some (.slice t.2.1.1 t.2.1.2.1 t.2.1.2.2) ∧ Rd w (· < w.heap.size) t.2.1.1 t.2.2 ∧ SlU w t.2.1.1 t.2.1.2.1 t.2.1.2.2 t.2.2.length (Rows.uptoBulk (D i))) (fun i hi => by
      obtain ⟨cs', h1, h2⟩ := hx i (by omega)
      obtain ⟨gr, q, m, c, l, e0, e1, hr, hs⟩ := share_at h1 h2
      exact ⟨(gr, (q, m, c), l), e0, e1, hr, hs⟩)
    have hbk := bulk_elem D len ((List.range (cap - len)).map fun j => D (len + j))
    refine ⟨some a, len, cap, (List.range len).map fun i => ((f i).1, (f i).2.2), take_one hcs, ?_, ⟨by simp, fun h => (by cases h), hl, hm, hbk.1⟩, ?_⟩
    · intro i hi
      rw [List.length_map, List.length_range] at hi
      obtain ⟨e0, e1, hr, hs⟩ := hf i hi
      rw [Go.Deep.add_add] at e0 e1
      have e00 := (hf 0 (by omega)).1
      rw [Go.Deep.add_add] at e00
      obtain ⟨g, oo, ha, hadd⟩ := addr_mk e00
      rw [hadd] at e0 e1
      have hg := World.block_lt_of_cell? w _ e0
      refine ⟨g, oo, (f i).2.1.1, (f i).2.1.2.1, (f i).2.1.2.2, by rw [ha], hg, by simpa using e0, by rw [Nat.add_assoc]; simpa using e1, by simpa using hs.len, by simpa using hr, hs.nil⟩
    · intro t ht
      obtain ⟨i, hi, rfl⟩ := List.mem_map.1 ht
      rw [List.mem_range] at hi
      obtain ⟨_, _, _, hs⟩ := hf i hi
      have h1 := hs.few
      have h2 := hs.len
      have h3 := hbk.2 i hi
      refine Nat.le_trans ?_ h3
      show (f i).2.2.length ≤ _
      omega
theorem one_idsU (h : DataW.trod enc Try.prog w 0 (fun _ => true) true fuel 45 ((cs.drop o).take 1) = some x) : ∃ (p : Option Addr) (n c : Nat) (l : List (List UInt8 × Int)), cs[o]? = some (.slice p n c) ∧ IdAt w (· < w.heap.size) p l ∧ SlU w p n c l.length (Rows.uptoBulk x.1) ∧ ∀ t ∈ l, t.1.length ≤ Rows.uptoBulk x.1 := by
  rcases open_slice Try.underlying45 h with ⟨hcs, rfl⟩ | ⟨a, len, cap, m, n, D, Pl, hcs, _, hl, hm, hmm, rfl, hx⟩
  · exact ⟨none, 0, 0, [], take_one hcs, fun i hi => absurd hi (by simp), ⟨rfl, fun _ => rfl, Nat.le_refl _, by unfold maxLen; omega, by omega⟩, fun t h => by cases h⟩
  · simp only [if_true] at hmm
    have hmm' := hmm.symm
    subst hmm'
    rw [show Try.prog.cellsOf 51 = 2 from by kernel_rfl] at hx
    obtain ⟨f, hf⟩ := choose_lt (n := len) (α := Int × (Option Addr × Nat × Nat) × List UInt8) (p := fun i t => w.cell? ((a.add (i * 2)).add 0) = some (.slice t.2.1.1 t.2.1.2.1 t.2.1.2.2) ∧ w.cell? ((a.add (i * 2)).add 1) = some (.int .i64 t.1) ∧ Rd w (· < w.heap.size) t.2.1.1 t.2.2 ∧ SlU w t.2.1.1 t.2.1.2.1 t.2.1.2.2 t.2.2.length (Rows.uptoBulk (D i))) (fun i hi => by
      obtain ⟨cs', h1, h2⟩ := hx i (by omega)
      obtain ⟨gr, q, m, c, l, e0, e1, hr, hs⟩ := id_at h1 h2
      exact ⟨(gr, (q, m, c), l), e0, e1, hr, hs⟩)
    have hbk := bulk_elem D len ((List.range (cap - len)).map fun j => D (len + j))
    refine ⟨some a, len, cap, (List.range len).map fun i => ((f i).2.2, (f i).1), take_one hcs, ?_, ⟨by simp, fun h => (by cases h), hl, hm, hbk.1⟩, ?_⟩
    · intro i hi
      rw [List.length_map, List.length_range] at hi
      obtain ⟨e0, e1, hr, hs⟩ := hf i hi
      rw [Go.Deep.add_add] at e0 e1
      have e00 := (hf 0 (by omega)).1
      rw [Go.Deep.add_add] at e00
      obtain ⟨g, oo, ha, hadd⟩ := addr_mk e00
      rw [hadd] at e0 e1
      have hg := World.block_lt_of_cell? w _ e0
      refine ⟨g, oo, (f i).2.1.1, (f i).2.1.2.1, (f i).2.1.2.2, by rw [ha], hg, by simpa using e0, by rw [Nat.add_assoc]; simpa using e1, by simpa using hs.len, by simpa using hr, hs.nil⟩
    · intro t ht
      obtain ⟨i, hi, rfl⟩ := List.mem_map.1 ht
      rw [List.mem_range] at hi
      obtain ⟨_, _, _, hs⟩ := hf i hi
      have h1 := hs.few
      have h2 := hs.len
      have h3 := hbk.2 i hi
      refine Nat.le_trans ?_ h3
      show (f i).2.2.length ≤ _
      omega
theorem one_bndU (h : DataW.trod enc Try.prog w 0 (fun _ => true) true fuel 46 ((cs.drop o).take 1) = some x) : ∃ (p : Option Addr) (n c : Nat) (l : List (List UInt8)), cs[o]? = some (.slice p n c) ∧ BdAt w (· < w.heap.size) p l ∧ SlU w p n c l.length (Rows.uptoBulk x.1) ∧ ∀ t ∈ l, t.length ≤ Rows.uptoBulk x.1 := by
  rcases open_slice Try.underlying46 h with ⟨hcs, rfl⟩ | ⟨a, len, cap, m, n, D, Pl, hcs, _, hl, hm, hmm, rfl, hx⟩
  · exact ⟨none, 0, 0, [], take_one hcs, fun i hi => absurd hi (by simp), ⟨rfl, fun _ => rfl, Nat.le_refl _, by unfold maxLen; omega, by omega⟩, fun t h => by cases h⟩
  · simp only [if_true] at hmm
    have hmm' := hmm.symm
    subst hmm'
    rw [show Try.prog.cellsOf 23 = 1 from by kernel_rfl] at hx
    obtain ⟨f, hf⟩ := choose_lt (n := len) (α := (Option Addr × Nat × Nat) × List UInt8) (p := fun i t => w.cell? (a.add i) = some (.slice t.1.1 t.1.2.1 t.1.2.2) ∧ Rd w (· < w.heap.size) t.1.1 t.2 ∧ SlU w t.1.1 t.1.2.1 t.1.2.2 t.2.length (Rows.uptoBulk (D i))) (fun i hi => by
      obtain ⟨cs', h1, h2⟩ := hx i (by omega)
      rw [Nat.mul_one] at h1
      obtain ⟨_, hlen, hcell⟩ := World.cells?_some h1
      match cs', hlen with
      | [v], _ =>
        obtain ⟨q, m, c, l, e0, hr, hs⟩ := one_bytesU (cs := [v]) (o := 0) (by simpa using h2)
        have hc := hcell 0 (by omega)
        rw [show (a.add i).add 0 = a.add i from by rw [Go.Deep.add_add, Nat.add_zero]] at hc
        exact ⟨((q, m, c), l), hc.trans e0, hr, hs⟩)
    have hbk := bulk_elem D len ((List.range (cap - len)).map fun j => D (len + j))
    refine ⟨some a, len, cap, (List.range len).map fun i => (f i).2, take_one hcs, ?_, ⟨by simp, fun h => (by cases h), hl, hm, hbk.1⟩, ?_⟩
    · intro i hi
      rw [List.length_map, List.length_range] at hi
      obtain ⟨e0, hr, hs⟩ := hf i hi
      obtain ⟨g, oo, ha, hadd⟩ := addr_mk (hf 0 (by omega)).1
      rw [hadd] at e0
      have hg := World.block_lt_of_cell? w _ e0
      refine ⟨g, oo, (f i).1.1, (f i).1.2.1, (f i).1.2.2, by rw [ha], hg, by simpa using e0, by simpa using hs.len, by simpa using hr, hs.nil⟩
    · intro t ht
      obtain ⟨i, hi, rfl⟩ := List.mem_map.1 ht
      rw [List.mem_range] at hi
      obtain ⟨_, _, hs⟩ := hf i hi
      have h1 := hs.few
      have h2 := hs.len
      have h3 := hbk.2 i hi
      refine Nat.le_trans ?_ h3
      show (f i).2.length ≤ _
      omega
end
/-- All that it holds is of m at most. -/
structure SmallC (s : Cl) (m : Nat) : Prop where
  l1 : s.ses.length ≤ m
  l2 : s.suites.length ≤ m
  l3 : s.vers.length ≤ m
  l4 : s.grps.length ≤ m
  l5 : s.schs.length ≤ m
  l6 : s.shs.length ≤ m
  l7 : s.cook.length ≤ m
  l8 : s.modes.length ≤ m
  l9 : s.ids.length ≤ m
  l10 : s.bnd.length ≤ m
  e6 : ∀ t ∈ s.shs, t.2.length ≤ m
  e9 : ∀ t ∈ s.ids, t.1.length ≤ m
  e10 : ∀ t ∈ s.bnd, t.length ≤ m
/-- It is a Client's. -/
def IsClU (w : World) (C : Array Value) (m : Nat) : Prop := ∃ s z, C = clV s z ∧ IsCl w (· < w.heap.size) s z ∧ SmallC s m
set_option maxHeartbeats 4000000 in
theorem cl_of {H : Type} {enc : TypeId × Value → H} {w : World} {fuel : Nat} {C : Array Value} {x : DataW H × List MemPlace}
    (hsz : C.size = Try.prog.cellsOf 48) (hf : DataW.trod enc Try.prog w 0 (fun _ => true) true fuel 48 (Value.agg C).cells.toList = some x) : IsClU w C (Rows.uptoBulk x.1) := by
  rw [show Try.prog.cellsOf 48 = 42 from by kernel_rfl] at hsz
  obtain ⟨xs, n, _, rfl, _, hxl, hel⟩ := DataW.trod_struct Try.underlying48 hf
  have hxl' : xs.length = 11 := hxl
  obtain ⟨y0, y1, y2, y3, y4, y5, y6, y7, y8, y9, y10, rfl⟩ : ∃ a0 a1 a2 a3 a4 a5 a6 a7 a8 a9 a10, xs = [a0, a1, a2, a3, a4, a5, a6, a7, a8, a9, a10] := by
    match xs, hxl' with
    | [a0, a1, a2, a3, a4, a5, a6, a7, a8, a9, a10], _ => exact ⟨a0, a1, a2, a3, a4, a5, a6, a7, a8, a9, a10, rfl⟩
  have g0 : DataW.trod enc Try.prog w 0 (fun _ => true) true n 22 (((Value.agg C).cells.toList.drop 0).take (Try.prog.cellsOf 22)) = some y0 := hel 0 _ rfl
  have g1 : DataW.trod enc Try.prog w 0 (fun _ => true) true n 23 (((Value.agg C).cells.toList.drop 32).take (Try.prog.cellsOf 23)) = some y1 := hel 1 _ rfl
  have g2 : DataW.trod enc Try.prog w 0 (fun _ => true) true n 43 (((Value.agg C).cells.toList.drop 33).take (Try.prog.cellsOf 43)) = some y2 := hel 2 _ rfl
  have g3 : DataW.trod enc Try.prog w 0 (fun _ => true) true n 43 (((Value.agg C).cells.toList.drop 34).take (Try.prog.cellsOf 43)) = some y3 := hel 3 _ rfl
  have g4 : DataW.trod enc Try.prog w 0 (fun _ => true) true n 43 (((Value.agg C).cells.toList.drop 35).take (Try.prog.cellsOf 43)) = some y4 := hel 4 _ rfl
  have g5 : DataW.trod enc Try.prog w 0 (fun _ => true) true n 43 (((Value.agg C).cells.toList.drop 36).take (Try.prog.cellsOf 43)) = some y5 := hel 5 _ rfl
  have g6 : DataW.trod enc Try.prog w 0 (fun _ => true) true n 44 (((Value.agg C).cells.toList.drop 37).take (Try.prog.cellsOf 44)) = some y6 := hel 6 _ rfl
  have g7 : DataW.trod enc Try.prog w 0 (fun _ => true) true n 23 (((Value.agg C).cells.toList.drop 38).take (Try.prog.cellsOf 23)) = some y7 := hel 7 _ rfl
  have g8 : DataW.trod enc Try.prog w 0 (fun _ => true) true n 23 (((Value.agg C).cells.toList.drop 39).take (Try.prog.cellsOf 23)) = some y8 := hel 8 _ rfl
  have g9 : DataW.trod enc Try.prog w 0 (fun _ => true) true n 45 (((Value.agg C).cells.toList.drop 40).take (Try.prog.cellsOf 45)) = some y9 := hel 9 _ rfl
  have g10 : DataW.trod enc Try.prog w 0 (fun _ => true) true n 46 (((Value.agg C).cells.toList.drop 41).take (Try.prog.cellsOf 46)) = some y10 := hel 10 _ rfl
  simp only [show Try.prog.cellsOf 22 = 32 from by kernel_rfl, show Try.prog.cellsOf 23 = 1 from by kernel_rfl, show Try.prog.cellsOf 43 = 1 from by kernel_rfl, show Try.prog.cellsOf 44 = 1 from by kernel_rfl, show Try.prog.cellsOf 45 = 1 from by kernel_rfl, show Try.prog.cellsOf 46 = 1 from by kernel_rfl] at g0 g1 g2 g3 g4 g5 g6 g7 g8 g9 g10
  obtain ⟨R, hR, k0⟩ := one_arr32 g0
  obtain ⟨p1, n1, c1, ses, k1, r1, s1⟩ := one_bytesU g1
  obtain ⟨p2, n2, c2, suites, k2, r2, s2⟩ := one_intsU g2
  obtain ⟨p3, n3, c3, vers, k3, r3, s3⟩ := one_intsU g3
  obtain ⟨p4, n4, c4, grps, k4, r4, s4⟩ := one_intsU g4
  obtain ⟨p5, n5, c5, schs, k5, r5, s5⟩ := one_intsU g5
  obtain ⟨p6, n6, c6, shs, k6, r6, s6, m6⟩ := one_sharesU g6
  obtain ⟨p7, n7, c7, cook, k7, r7, s7⟩ := one_bytesU g7
  obtain ⟨p8, n8, c8, modes, k8, r8, s8⟩ := one_bytesU g8
  obtain ⟨p9, n9, c9, ids, k9, r9, s9, m9⟩ := one_idsU g9
  obtain ⟨p10, n10, c10, bnd, k10, r10, s10, m10⟩ := one_bndU g10
  have b1 := bulk_agg (d := y1.1) (l := [y0, y1, y2, y3, y4, y5, y6, y7, y8, y9, y10].map (·.1)) (by simp)
  have b2 := bulk_agg (d := y2.1) (l := [y0, y1, y2, y3, y4, y5, y6, y7, y8, y9, y10].map (·.1)) (by simp)
  have b3 := bulk_agg (d := y3.1) (l := [y0, y1, y2, y3, y4, y5, y6, y7, y8, y9, y10].map (·.1)) (by simp)
  have b4 := bulk_agg (d := y4.1) (l := [y0, y1, y2, y3, y4, y5, y6, y7, y8, y9, y10].map (·.1)) (by simp)
  have b5 := bulk_agg (d := y5.1) (l := [y0, y1, y2, y3, y4, y5, y6, y7, y8, y9, y10].map (·.1)) (by simp)
  have b6 := bulk_agg (d := y6.1) (l := [y0, y1, y2, y3, y4, y5, y6, y7, y8, y9, y10].map (·.1)) (by simp)
  have b7 := bulk_agg (d := y7.1) (l := [y0, y1, y2, y3, y4, y5, y6, y7, y8, y9, y10].map (·.1)) (by simp)
  have b8 := bulk_agg (d := y8.1) (l := [y0, y1, y2, y3, y4, y5, y6, y7, y8, y9, y10].map (·.1)) (by simp)
  have b9 := bulk_agg (d := y9.1) (l := [y0, y1, y2, y3, y4, y5, y6, y7, y8, y9, y10].map (·.1)) (by simp)
  have b10 := bulk_agg (d := y10.1) (l := [y0, y1, y2, y3, y4, y5, y6, y7, y8, y9, y10].map (·.1)) (by simp)
  simp only [Value.cells, Array.getElem?_toList] at k0 k1 k2 k3 k4 k5 k6 k7 k8 k9 k10
  refine ⟨⟨R, ses, suites, vers, grps, schs, shs, cook, modes, ids, bnd⟩, ⟨p1, n1, c1, p2, n2, c2, p3, n3, c3, p4, n4, c4, p5, n5, c5, p6, n6, c6, p7, n7, c7, p8, n8, c8, p9, n9, c9, p10, n10, c10⟩, ?_, ⟨hR, ⟨s1.len, r1, s1.nil, s1.le, s1.max⟩, ⟨s2.len, r2, s2.nil, s2.le, s2.max⟩, ⟨s3.len, r3, s3.nil, s3.le, s3.max⟩, ⟨s4.len, r4, s4.nil, s4.le, s4.max⟩, ⟨s5.len, r5, s5.nil, s5.le, s5.max⟩, ⟨s6.len, r6, s6.nil, s6.le, s6.max⟩, ⟨s7.len, r7, s7.nil, s7.le, s7.max⟩, ⟨s8.len, r8, s8.nil, s8.le, s8.max⟩, ⟨s9.len, r9, s9.nil, s9.le, s9.max⟩, ⟨s10.len, r10, s10.nil, s10.le, s10.max⟩⟩, ⟨(Nat.le_trans (Nat.le_trans (Nat.le_of_eq s1.len) s1.few) b1), (Nat.le_trans (Nat.le_trans (Nat.le_of_eq s2.len) s2.few) b2), (Nat.le_trans (Nat.le_trans (Nat.le_of_eq s3.len) s3.few) b3), (Nat.le_trans (Nat.le_trans (Nat.le_of_eq s4.len) s4.few) b4), (Nat.le_trans (Nat.le_trans (Nat.le_of_eq s5.len) s5.few) b5), (Nat.le_trans (Nat.le_trans (Nat.le_of_eq s6.len) s6.few) b6), (Nat.le_trans (Nat.le_trans (Nat.le_of_eq s7.len) s7.few) b7), (Nat.le_trans (Nat.le_trans (Nat.le_of_eq s8.len) s8.few) b8), (Nat.le_trans (Nat.le_trans (Nat.le_of_eq s9.len) s9.few) b9), (Nat.le_trans (Nat.le_trans (Nat.le_of_eq s10.len) s10.few) b10), (fun t ht => Nat.le_trans (m6 t ht) b6), (fun t ht => Nat.le_trans (m9 t ht) b9), (fun t ht => Nat.le_trans (m10 t ht) b10)⟩⟩
  apply Array.ext'
  apply List.ext_getElem?
  intro k
  have hs : (clV ⟨R, ses, suites, vers, grps, schs, shs, cook, modes, ids, bnd⟩ ⟨p1, n1, c1, p2, n2, c2, p3, n3, c3, p4, n4, c4, p5, n5, c5, p6, n6, c6, p7, n7, c7, p8, n8, c8, p9, n9, c9, p10, n10, c10⟩).toList = R.map B8 ++ [.slice p1 n1 c1, .slice p2 n2 c2, .slice p3 n3 c3, .slice p4 n4 c4, .slice p5 n5 c5, .slice p6 n6 c6, .slice p7 n7 c7, .slice p8 n8 c8, .slice p9 n9 c9, .slice p10 n10 c10] := rfl
  rw [hs, Array.getElem?_toList]
  by_cases hk : k < 32
  · rw [List.getElem?_append_left (by rw [List.length_map, hR]; exact hk)]
    have h := k0 k (by omega)
    rw [Nat.zero_add] at h
    rw [h]
    simp [hR, hk]
  · rw [List.getElem?_append_right (by rw [List.length_map, hR]; omega), List.length_map, hR]
    have hc : k = 32 ∨ k = 33 ∨ k = 34 ∨ k = 35 ∨ k = 36 ∨ k = 37 ∨ k = 38 ∨ k = 39 ∨ k = 40 ∨ k = 41 ∨ 42 ≤ k := by omega
    rcases hc with rfl | rfl | rfl | rfl | rfl | rfl | rfl | rfl | rfl | rfl | hc
    · exact k1
    · exact k2
    · exact k3
    · exact k4
    · exact k5
    · exact k6
    · exact k7
    · exact k8
    · exact k9
    · exact k10
    · rw [Array.getElem?_eq_none (by omega), List.getElem?_eq_none (by simp; omega)]
end Go.Proofs.Ytegmimnhkohaoaa
/-
  How the Client that is handed over reads in the words of the walk, and what the reach (so many bytes of memory, at most, of each slice) gives. No condition.
-/
namespace Go.Proofs.Ytegmimnhkohaoaa
open Go.RowKit Go.Kx Go.Deep Go.ChangeShapes Go.WideShapes Go.ChangeAt
set_option linter.unusedVariables false
set_option linter.unusedSimpArgs false
set_option maxRecDepth 100000

/-! ### The bound -/
/-- No row that a datum was read of has more bytes than the reach. -/
def WtLe {H : Type} (t : TypeId) (d : DataW H) : Prop := ∀ n ∈ DataW.weights Try.prog t d, n ≤ reachBytes
section
variable {H : Type}
theorem wt_le {ts : List TypeId} {ds : List (DataW H)} (h : (DataW.weightsEach Try.prog ts ds).all (· ≤ reachBytes) = true) {j : Nat} {t : TypeId} {d : DataW H} (ht : ts[j]? = some t) (hd : ds[j]? = some d) : WtLe t d :=
  fun n hn => by simpa using List.all_eq_true.1 h _ (DataW.weights_mem_each ht hd n hn)
theorem wt_slice {t e : TypeId} (hu : Try.prog.underlying t = some (.slice e)) {elems spare : List (DataW H)} (h : WtLe t (.slice elems spare)) : (elems.length + spare.length) * Try.prog.bytesOf e ≤ reachBytes := h _ (by simp [DataW.weights, hu])
theorem weights_all {e : TypeId} {d : DataW H} {l : List (DataW H)} (h : d ∈ l) : ∀ n ∈ DataW.weights Try.prog e d, n ∈ DataW.weightsAll Try.prog e l := by
  induction l with
  | nil => cases h
  | cons x r ih =>
    intro n hn
    simp only [DataW.weightsAll, List.mem_append]
    cases List.mem_cons.1 h with
    | inl e => subst e; exact .inl hn
    | inr e => exact .inr (ih e n hn)
theorem wt_elem {t e : TypeId} (hu : Try.prog.underlying t = some (.slice e)) {elems spare : List (DataW H)} (h : WtLe t (.slice elems spare)) {d : DataW H} (hd : d ∈ elems) : WtLe e d := fun n hn => h n (by
    simp only [DataW.weights, hu, List.mem_cons, List.mem_append]
    exact .inr (.inl (weights_all hd n hn)))
theorem wt_part {t : TypeId} {fs : Array Field} (hu : Try.prog.underlying t = some (.struct fs)) {parts : List (DataW H)} (h : WtLe t (.agg parts)) (j : Nat) {u : TypeId} {d : DataW H} (ht : (fs.toList.map (·.type))[j]? = some u) (hd : parts[j]? = some d) : WtLe u d := fun n hn => h n (by
    simp only [DataW.weights, hu]
    exact DataW.weights_mem_each ht hd n hn)
end
theorem bytes3 : Try.prog.bytesOf 3 = 8 := by kernel_rfl
theorem bytes5 : Try.prog.bytesOf 5 = 1 := by kernel_rfl

section
variable {H : Type} {enc : TypeId × Value → H} {w : World} {fuel : Nat} {cs : List Value} {o : Nat} {x : DataW H × List MemPlace}
theorem one_bytesW (hw : WtLe 23 x.1) (h : DataW.trod enc Try.prog w 0 (fun _ => true) true fuel 23 ((cs.drop o).take 1) = some x) : ∃ (p : Option Addr) (n c : Nat) (l : List UInt8), cs[o]? = some (.slice p n c) ∧ Rd w (· < w.heap.size) p l ∧ SlU w p n c l.length reachBytes := by
  rcases open_ints Try.underlying23 Try.underlying5 (by kernel_rfl) h with ⟨hcs, rfl⟩ | ⟨y, l, c, zs, hcs, _, hl, hm, hz, rfl, hcell, hwz⟩
  · exact ⟨none, 0, 0, [], take_one hcs, Rd.nil _ _ _, ⟨rfl, fun _ => rfl, Nat.le_refl _, by unfold maxLen; omega, by omega⟩⟩
  · have hz' : zs.length = c := by simpa using hz
    have hr : IsRow .u8 w (some y) l c zs := .inr ⟨y, rfl, hl, hm, hz', hcell, hwz⟩
    obtain ⟨b, h1, h2, h3, h4, h5⟩ := open_bytes hr
    refine ⟨some y, l, c, b, take_one hcs, h1, ⟨h2, h5, h3, h4, ?_⟩⟩
    have hw2 := wt_slice Try.underlying23 hw
    simp only [lits, List.length_map, List.length_take, bytes5] at hw2
    omega
theorem one_intsW (hw : WtLe 43 x.1) (h : DataW.trod enc Try.prog w 0 (fun _ => true) true fuel 43 ((cs.drop o).take 1) = some x) : ∃ (p : Option Addr) (n c : Nat) (l : List Int), cs[o]? = some (.slice p n c) ∧ RdI w (· < w.heap.size) p l ∧ SlU w p n c l.length (reachBytes / 8) := by
  rcases open_ints Try.underlying43 Try.underlying3 (by kernel_rfl) h with ⟨hcs, rfl⟩ | ⟨y, l, c, zs, hcs, _, hl, hm, hz, rfl, hcell, hwz⟩
  · exact ⟨none, 0, 0, [], take_one hcs, RdV.nil _ _ _, ⟨rfl, fun _ => rfl, Nat.le_refl _, by unfold maxLen; omega, by omega⟩⟩
  · have hz' : zs.length = c := by simpa using hz
    refine ⟨some y, l, c, zs.take l, take_one hcs, ?_, ⟨by rw [List.length_take]; omega, fun h => (by cases h), hl, hm, ?_⟩⟩
    · intro i hi
      have hi' : i < l := by rw [List.length_map, List.length_take] at hi; omega
      have hc := hcell i (by omega)
      refine ⟨y, rfl, by have := World.block_lt_of_cell? w _ hc; rwa [add_block] at this, ?_⟩
      rw [hc]
      have hg : zs.getD i 0 = zs[i]'(by omega) := by rw [List.getD_eq_getElem?_getD, List.getElem?_eq_getElem (by omega)]; rfl
      rw [hg]
      simp
    · refine (Nat.le_div_iff_mul_le (by decide)).2 ?_
      have hw2 := wt_slice Try.underlying43 hw
      simp only [lits, List.length_map, List.length_take, bytes3] at hw2
      omega
theorem share_atW {a : Addr} {cs' : List Value} {n : Nat} {y : DataW H × List MemPlace} (hw : WtLe 25 y.1) (h1 : w.cells? 0 a 2 = some cs') (h2 : DataW.trod enc Try.prog w 0 (fun _ => true) true n 25 cs' = some y) :
    ∃ (gr : Int) (q : Option Addr) (m c : Nat) (l : List UInt8), w.cell? (a.add 0) = some (.int .i64 gr) ∧ w.cell? (a.add 1) = some (.slice q m c) ∧ Rd w (· < w.heap.size) q l ∧ SlU w q m c l.length reachBytes := by
  obtain ⟨_, hlen, hcell⟩ := World.cells?_some h1
  obtain ⟨xs, k, _, rfl, _, hxl, hf⟩ := DataW.trod_struct Try.underlying25 h2
  have hxl' : xs.length = 2 := hxl
  obtain ⟨y0, y1, rfl⟩ : ∃ a b, xs = [a, b] := by
    match xs, hxl' with
    | [a, b], _ => exact ⟨a, b, rfl⟩
  have g0 : DataW.trod enc Try.prog w 0 (fun _ => true) true k 3 ((cs'.drop 0).take (Try.prog.cellsOf 3)) = some y0 := hf 0 _ rfl
  have g1 : DataW.trod enc Try.prog w 0 (fun _ => true) true k 23 ((cs'.drop 1).take (Try.prog.cellsOf 23)) = some y1 := hf 1 _ rfl
  simp only [show Try.prog.cellsOf 3 = 1 from by kernel_rfl, show Try.prog.cellsOf 23 = 1 from by kernel_rfl] at g0 g1
  obtain ⟨gr, e0⟩ := one_int g0
  obtain ⟨q, m, c, l, e1, hr, hs⟩ := one_bytesW (wt_part Try.underlying25 (parts := [y0, y1].map (·.1)) hw 1 (u := 23) rfl rfl) g1
  exact ⟨gr, q, m, c, l, (hcell 0 (by omega)).trans e0, (hcell 1 (by omega)).trans e1, hr, hs⟩
theorem id_atW {a : Addr} {cs' : List Value} {n : Nat} {y : DataW H × List MemPlace} (hw : WtLe 51 y.1) (h1 : w.cells? 0 a 2 = some cs') (h2 : DataW.trod enc Try.prog w 0 (fun _ => true) true n 51 cs' = some y) :
    ∃ (gr : Int) (q : Option Addr) (m c : Nat) (l : List UInt8), w.cell? (a.add 0) = some (.slice q m c) ∧ w.cell? (a.add 1) = some (.int .i64 gr) ∧ Rd w (· < w.heap.size) q l ∧ SlU w q m c l.length reachBytes := by
  obtain ⟨_, hlen, hcell⟩ := World.cells?_some h1
  obtain ⟨xs, k, _, rfl, _, hxl, hf⟩ := DataW.trod_struct Try.underlying51 h2
  have hxl' : xs.length = 2 := hxl
  obtain ⟨y0, y1, rfl⟩ : ∃ a b, xs = [a, b] := by
    match xs, hxl' with
    | [a, b], _ => exact ⟨a, b, rfl⟩
  have g0 : DataW.trod enc Try.prog w 0 (fun _ => true) true k 23 ((cs'.drop 0).take (Try.prog.cellsOf 23)) = some y0 := hf 0 _ rfl
  have g1 : DataW.trod enc Try.prog w 0 (fun _ => true) true k 3 ((cs'.drop 1).take (Try.prog.cellsOf 3)) = some y1 := hf 1 _ rfl
  simp only [show Try.prog.cellsOf 3 = 1 from by kernel_rfl, show Try.prog.cellsOf 23 = 1 from by kernel_rfl] at g0 g1
  obtain ⟨q, m, c, l, e0, hr, hs⟩ := one_bytesW (wt_part Try.underlying51 (parts := [y0, y1].map (·.1)) hw 0 (u := 23) rfl rfl) g0
  obtain ⟨gr, e1⟩ := one_int g1
  exact ⟨gr, q, m, c, l, (hcell 0 (by omega)).trans e0, (hcell 1 (by omega)).trans e1, hr, hs⟩
theorem one_sharesW (hw : WtLe 44 x.1) (h : DataW.trod enc Try.prog w 0 (fun _ => true) true fuel 44 ((cs.drop o).take 1) = some x) : ∃ (p : Option Addr) (n c : Nat) (l : List (Int × List UInt8)), cs[o]? = some (.slice p n c) ∧ ShAt w (· < w.heap.size) p l ∧ SlU w p n c l.length n ∧ ∀ t ∈ l, t.2.length ≤ reachBytes := by
  rcases open_slice Try.underlying44 h with ⟨hcs, rfl⟩ | ⟨a, len, cap, m, n, D, Pl, hcs, _, hl, hm, hmm, rfl, hx⟩
  · exact ⟨none, 0, 0, [], take_one hcs, fun i hi => absurd hi (by simp), ⟨rfl, fun _ => rfl, Nat.le_refl _, by unfold maxLen; omega, Nat.le_refl _⟩, fun t h => by cases h⟩
  · simp only [if_true] at hmm
    have hmm' := hmm.symm
    subst hmm'
    rw [show Try.prog.cellsOf 25 = 2 from by kernel_rfl] at hx
    have hbk : ∀ i, i < len → WtLe 25 (D i) := fun i hi => wt_elem Try.underlying44 hw (List.mem_map.2 ⟨i, List.mem_range.2 hi, rfl⟩)
    obtain ⟨f, hf⟩ := choose_lt (n := len) (α := Int × (Option Addr × Nat × Nat) × List UInt8) (p := fun i t => w.cell? ((a.add (i * 2)).add 0) = some (.int .i64 t.1) ∧ w.cell? ((a.add (i * 2)).add 1) = some (.slice t.2.1.1 t.2.1.2.1 t.2.1.2.2) ∧ Rd w (· < w.heap.size) t.2.1.1 t.2.2 ∧ SlU w t.2.1.1 t.2.1.2.1 t.2.1.2.2 t.2.2.length reachBytes) (fun i hi => by
      obtain ⟨cs', h1, h2⟩ := hx i (by omega)
      obtain ⟨gr, q, m, c, l, e0, e1, hr, hs⟩ := share_atW (hbk i hi) h1 h2
      exact ⟨(gr, (q, m, c), l), e0, e1, hr, hs⟩)
    refine ⟨some a, len, cap, (List.range len).map fun i => ((f i).1, (f i).2.2), take_one hcs, ?_, ⟨by simp, fun h => (by cases h), hl, hm, Nat.le_refl _⟩, ?_⟩
    · intro i hi
      rw [List.length_map, List.length_range] at hi
      obtain ⟨e0, e1, hr, hs⟩ := hf i hi
      rw [Go.Deep.add_add] at e0 e1
      have e00 := (hf 0 (by omega)).1
      rw [Go.Deep.add_add] at e00
      obtain ⟨g, oo, ha, hadd⟩ := addr_mk e00
      rw [hadd] at e0 e1
      have hg := World.block_lt_of_cell? w _ e0
      refine ⟨g, oo, (f i).2.1.1, (f i).2.1.2.1, (f i).2.1.2.2, by rw [ha], hg, by simpa using e0, by rw [Nat.add_assoc]; simpa using e1, by simpa using hs.len, by simpa using hr, hs.nil⟩
    · intro t ht
      obtain ⟨i, hi, rfl⟩ := List.mem_map.1 ht
      rw [List.mem_range] at hi
      obtain ⟨_, _, _, hs⟩ := hf i hi
      have h1 := hs.few
      have h2 := hs.len
      show (f i).2.2.length ≤ _
      omega
theorem one_idsW (hw : WtLe 45 x.1) (h : DataW.trod enc Try.prog w 0 (fun _ => true) true fuel 45 ((cs.drop o).take 1) = some x) : ∃ (p : Option Addr) (n c : Nat) (l : List (List UInt8 × Int)), cs[o]? = some (.slice p n c) ∧ IdAt w (· < w.heap.size) p l ∧ SlU w p n c l.length n ∧ ∀ t ∈ l, t.1.length ≤ reachBytes := by
  rcases open_slice Try.underlying45 h with ⟨hcs, rfl⟩ | ⟨a, len, cap, m, n, D, Pl, hcs, _, hl, hm, hmm, rfl, hx⟩
  · exact ⟨none, 0, 0, [], take_one hcs, fun i hi => absurd hi (by simp), ⟨rfl, fun _ => rfl, Nat.le_refl _, by unfold maxLen; omega, Nat.le_refl _⟩, fun t h => by cases h⟩
  · simp only [if_true] at hmm
    have hmm' := hmm.symm
    subst hmm'
    rw [show Try.prog.cellsOf 51 = 2 from by kernel_rfl] at hx
    have hbk : ∀ i, i < len → WtLe 51 (D i) := fun i hi => wt_elem Try.underlying45 hw (List.mem_map.2 ⟨i, List.mem_range.2 hi, rfl⟩)
    obtain ⟨f, hf⟩ := choose_lt (n := len) (α := Int × (Option Addr × Nat × Nat) × List UInt8) (p := fun i t => w.cell? ((a.add (i * 2)).add 0) = some (.slice t.2.1.1 t.2.1.2.1 t.2.1.2.2) ∧ w.cell? ((a.add (i * 2)).add 1) = some (.int .i64 t.1) ∧ Rd w (· < w.heap.size) t.2.1.1 t.2.2 ∧ SlU w t.2.1.1 t.2.1.2.1 t.2.1.2.2 t.2.2.length reachBytes) (fun i hi => by
      obtain ⟨cs', h1, h2⟩ := hx i (by omega)
      obtain ⟨gr, q, m, c, l, e0, e1, hr, hs⟩ := id_atW (hbk i hi) h1 h2
      exact ⟨(gr, (q, m, c), l), e0, e1, hr, hs⟩)
    refine ⟨some a, len, cap, (List.range len).map fun i => ((f i).2.2, (f i).1), take_one hcs, ?_, ⟨by simp, fun h => (by cases h), hl, hm, Nat.le_refl _⟩, ?_⟩
    · intro i hi
      rw [List.length_map, List.length_range] at hi
      obtain ⟨e0, e1, hr, hs⟩ := hf i hi
      rw [Go.Deep.add_add] at e0 e1
      have e00 := (hf 0 (by omega)).1
      rw [Go.Deep.add_add] at e00
      obtain ⟨g, oo, ha, hadd⟩ := addr_mk e00
      rw [hadd] at e0 e1
      have hg := World.block_lt_of_cell? w _ e0
      refine ⟨g, oo, (f i).2.1.1, (f i).2.1.2.1, (f i).2.1.2.2, by rw [ha], hg, by simpa using e0, by rw [Nat.add_assoc]; simpa using e1, by simpa using hs.len, by simpa using hr, hs.nil⟩
    · intro t ht
      obtain ⟨i, hi, rfl⟩ := List.mem_map.1 ht
      rw [List.mem_range] at hi
      obtain ⟨_, _, _, hs⟩ := hf i hi
      have h1 := hs.few
      have h2 := hs.len
      show (f i).2.2.length ≤ _
      omega
theorem one_bndW (hw : WtLe 46 x.1) (h : DataW.trod enc Try.prog w 0 (fun _ => true) true fuel 46 ((cs.drop o).take 1) = some x) : ∃ (p : Option Addr) (n c : Nat) (l : List (List UInt8)), cs[o]? = some (.slice p n c) ∧ BdAt w (· < w.heap.size) p l ∧ SlU w p n c l.length n ∧ ∀ t ∈ l, t.length ≤ reachBytes := by
  rcases open_slice Try.underlying46 h with ⟨hcs, rfl⟩ | ⟨a, len, cap, m, n, D, Pl, hcs, _, hl, hm, hmm, rfl, hx⟩
  · exact ⟨none, 0, 0, [], take_one hcs, fun i hi => absurd hi (by simp), ⟨rfl, fun _ => rfl, Nat.le_refl _, by unfold maxLen; omega, Nat.le_refl _⟩, fun t h => by cases h⟩
  · simp only [if_true] at hmm
    have hmm' := hmm.symm
    subst hmm'
    rw [show Try.prog.cellsOf 23 = 1 from by kernel_rfl] at hx
    have hbk : ∀ i, i < len → WtLe 23 (D i) := fun i hi => wt_elem Try.underlying46 hw (List.mem_map.2 ⟨i, List.mem_range.2 hi, rfl⟩)
    obtain ⟨f, hf⟩ := choose_lt (n := len) (α := (Option Addr × Nat × Nat) × List UInt8) (p := fun i t => w.cell? (a.add i) = some (.slice t.1.1 t.1.2.1 t.1.2.2) ∧ Rd w (· < w.heap.size) t.1.1 t.2 ∧ SlU w t.1.1 t.1.2.1 t.1.2.2 t.2.length reachBytes) (fun i hi => by
      obtain ⟨cs', h1, h2⟩ := hx i (by omega)
      rw [Nat.mul_one] at h1
      obtain ⟨_, hlen, hcell⟩ := World.cells?_some h1
      match cs', hlen with
      | [v], _ =>
        obtain ⟨q, m, c, l, e0, hr, hs⟩ := one_bytesW (hbk i hi) (cs := [v]) (o := 0) (by simpa using h2)
        have hc := hcell 0 (by omega)
        rw [show (a.add i).add 0 = a.add i from by rw [Go.Deep.add_add, Nat.add_zero]] at hc
        exact ⟨((q, m, c), l), hc.trans e0, hr, hs⟩)
    refine ⟨some a, len, cap, (List.range len).map fun i => (f i).2, take_one hcs, ?_, ⟨by simp, fun h => (by cases h), hl, hm, Nat.le_refl _⟩, ?_⟩
    · intro i hi
      rw [List.length_map, List.length_range] at hi
      obtain ⟨e0, hr, hs⟩ := hf i hi
      obtain ⟨g, oo, ha, hadd⟩ := addr_mk (hf 0 (by omega)).1
      rw [hadd] at e0
      have hg := World.block_lt_of_cell? w _ e0
      refine ⟨g, oo, (f i).1.1, (f i).1.2.1, (f i).1.2.2, by rw [ha], hg, by simpa using e0, by simpa using hs.len, by simpa using hr, hs.nil⟩
    · intro t ht
      obtain ⟨i, hi, rfl⟩ := List.mem_map.1 ht
      rw [List.mem_range] at hi
      obtain ⟨_, _, hs⟩ := hf i hi
      have h1 := hs.few
      have h2 := hs.len
      show (f i).2.length ≤ _
      omega
end
/-- It is a Client's, and of a size that a machine may hold. -/
def IsClS (w : World) (C : Array Value) : Prop := ∃ s z, C = clV s z ∧ IsCl w (· < w.heap.size) s z ∧ FitR s
set_option maxHeartbeats 4000000 in
theorem cl_ofS {H : Type} {enc : TypeId × Value → H} {w : World} {fuel : Nat} {C : Array Value} {x : DataW H × List MemPlace}
    (hsz : C.size = Try.prog.cellsOf 48) (hw : WtLe 48 x.1) (hf : DataW.trod enc Try.prog w 0 (fun _ => true) true fuel 48 (Value.agg C).cells.toList = some x) : IsClS w C := by
  rw [show Try.prog.cellsOf 48 = 42 from by kernel_rfl] at hsz
  obtain ⟨xs, n, _, rfl, _, hxl, hel⟩ := DataW.trod_struct Try.underlying48 hf
  have hxl' : xs.length = 11 := hxl
  obtain ⟨y0, y1, y2, y3, y4, y5, y6, y7, y8, y9, y10, rfl⟩ : ∃ a0 a1 a2 a3 a4 a5 a6 a7 a8 a9 a10, xs = [a0, a1, a2, a3, a4, a5, a6, a7, a8, a9, a10] := by
    match xs, hxl' with
    | [a0, a1, a2, a3, a4, a5, a6, a7, a8, a9, a10], _ => exact ⟨a0, a1, a2, a3, a4, a5, a6, a7, a8, a9, a10, rfl⟩
  have g0 : DataW.trod enc Try.prog w 0 (fun _ => true) true n 22 (((Value.agg C).cells.toList.drop 0).take (Try.prog.cellsOf 22)) = some y0 := hel 0 _ rfl
  have g1 : DataW.trod enc Try.prog w 0 (fun _ => true) true n 23 (((Value.agg C).cells.toList.drop 32).take (Try.prog.cellsOf 23)) = some y1 := hel 1 _ rfl
  have g2 : DataW.trod enc Try.prog w 0 (fun _ => true) true n 43 (((Value.agg C).cells.toList.drop 33).take (Try.prog.cellsOf 43)) = some y2 := hel 2 _ rfl
  have g3 : DataW.trod enc Try.prog w 0 (fun _ => true) true n 43 (((Value.agg C).cells.toList.drop 34).take (Try.prog.cellsOf 43)) = some y3 := hel 3 _ rfl
  have g4 : DataW.trod enc Try.prog w 0 (fun _ => true) true n 43 (((Value.agg C).cells.toList.drop 35).take (Try.prog.cellsOf 43)) = some y4 := hel 4 _ rfl
  have g5 : DataW.trod enc Try.prog w 0 (fun _ => true) true n 43 (((Value.agg C).cells.toList.drop 36).take (Try.prog.cellsOf 43)) = some y5 := hel 5 _ rfl
  have g6 : DataW.trod enc Try.prog w 0 (fun _ => true) true n 44 (((Value.agg C).cells.toList.drop 37).take (Try.prog.cellsOf 44)) = some y6 := hel 6 _ rfl
  have g7 : DataW.trod enc Try.prog w 0 (fun _ => true) true n 23 (((Value.agg C).cells.toList.drop 38).take (Try.prog.cellsOf 23)) = some y7 := hel 7 _ rfl
  have g8 : DataW.trod enc Try.prog w 0 (fun _ => true) true n 23 (((Value.agg C).cells.toList.drop 39).take (Try.prog.cellsOf 23)) = some y8 := hel 8 _ rfl
  have g9 : DataW.trod enc Try.prog w 0 (fun _ => true) true n 45 (((Value.agg C).cells.toList.drop 40).take (Try.prog.cellsOf 45)) = some y9 := hel 9 _ rfl
  have g10 : DataW.trod enc Try.prog w 0 (fun _ => true) true n 46 (((Value.agg C).cells.toList.drop 41).take (Try.prog.cellsOf 46)) = some y10 := hel 10 _ rfl
  simp only [show Try.prog.cellsOf 22 = 32 from by kernel_rfl, show Try.prog.cellsOf 23 = 1 from by kernel_rfl, show Try.prog.cellsOf 43 = 1 from by kernel_rfl, show Try.prog.cellsOf 44 = 1 from by kernel_rfl, show Try.prog.cellsOf 45 = 1 from by kernel_rfl, show Try.prog.cellsOf 46 = 1 from by kernel_rfl] at g0 g1 g2 g3 g4 g5 g6 g7 g8 g9 g10
  have b1 := wt_part Try.underlying48 (parts := [y0, y1, y2, y3, y4, y5, y6, y7, y8, y9, y10].map (·.1)) hw 1 (u := 23) rfl rfl
  have b2 := wt_part Try.underlying48 (parts := [y0, y1, y2, y3, y4, y5, y6, y7, y8, y9, y10].map (·.1)) hw 2 (u := 43) rfl rfl
  have b3 := wt_part Try.underlying48 (parts := [y0, y1, y2, y3, y4, y5, y6, y7, y8, y9, y10].map (·.1)) hw 3 (u := 43) rfl rfl
  have b4 := wt_part Try.underlying48 (parts := [y0, y1, y2, y3, y4, y5, y6, y7, y8, y9, y10].map (·.1)) hw 4 (u := 43) rfl rfl
  have b5 := wt_part Try.underlying48 (parts := [y0, y1, y2, y3, y4, y5, y6, y7, y8, y9, y10].map (·.1)) hw 5 (u := 43) rfl rfl
  have b6 := wt_part Try.underlying48 (parts := [y0, y1, y2, y3, y4, y5, y6, y7, y8, y9, y10].map (·.1)) hw 6 (u := 44) rfl rfl
  have b7 := wt_part Try.underlying48 (parts := [y0, y1, y2, y3, y4, y5, y6, y7, y8, y9, y10].map (·.1)) hw 7 (u := 23) rfl rfl
  have b8 := wt_part Try.underlying48 (parts := [y0, y1, y2, y3, y4, y5, y6, y7, y8, y9, y10].map (·.1)) hw 8 (u := 23) rfl rfl
  have b9 := wt_part Try.underlying48 (parts := [y0, y1, y2, y3, y4, y5, y6, y7, y8, y9, y10].map (·.1)) hw 9 (u := 45) rfl rfl
  have b10 := wt_part Try.underlying48 (parts := [y0, y1, y2, y3, y4, y5, y6, y7, y8, y9, y10].map (·.1)) hw 10 (u := 46) rfl rfl
  obtain ⟨R, hR, k0⟩ := one_arr32 g0
  obtain ⟨p1, n1, c1, ses, k1, r1, s1⟩ := one_bytesW b1 g1
  obtain ⟨p2, n2, c2, suites, k2, r2, s2⟩ := one_intsW b2 g2
  obtain ⟨p3, n3, c3, vers, k3, r3, s3⟩ := one_intsW b3 g3
  obtain ⟨p4, n4, c4, grps, k4, r4, s4⟩ := one_intsW b4 g4
  obtain ⟨p5, n5, c5, schs, k5, r5, s5⟩ := one_intsW b5 g5
  obtain ⟨p6, n6, c6, shs, k6, r6, s6, m6⟩ := one_sharesW b6 g6
  obtain ⟨p7, n7, c7, cook, k7, r7, s7⟩ := one_bytesW b7 g7
  obtain ⟨p8, n8, c8, modes, k8, r8, s8⟩ := one_bytesW b8 g8
  obtain ⟨p9, n9, c9, ids, k9, r9, s9, m9⟩ := one_idsW b9 g9
  obtain ⟨p10, n10, c10, bnd, k10, r10, s10, m10⟩ := one_bndW b10 g10
  simp only [Value.cells, Array.getElem?_toList] at k0 k1 k2 k3 k4 k5 k6 k7 k8 k9 k10
  refine ⟨⟨R, ses, suites, vers, grps, schs, shs, cook, modes, ids, bnd⟩, ⟨p1, n1, c1, p2, n2, c2, p3, n3, c3, p4, n4, c4, p5, n5, c5, p6, n6, c6, p7, n7, c7, p8, n8, c8, p9, n9, c9, p10, n10, c10⟩, ?_, ⟨hR, ⟨s1.len, r1, s1.nil, s1.le, s1.max⟩, ⟨s2.len, r2, s2.nil, s2.le, s2.max⟩, ⟨s3.len, r3, s3.nil, s3.le, s3.max⟩, ⟨s4.len, r4, s4.nil, s4.le, s4.max⟩, ⟨s5.len, r5, s5.nil, s5.le, s5.max⟩, ⟨s6.len, r6, s6.nil, s6.le, s6.max⟩, ⟨s7.len, r7, s7.nil, s7.le, s7.max⟩, ⟨s8.len, r8, s8.nil, s8.le, s8.max⟩, ⟨s9.len, r9, s9.nil, s9.le, s9.max⟩, ⟨s10.len, r10, s10.nil, s10.le, s10.max⟩⟩, ⟨by have h1 := s2.few; have h2 := s2.len; unfold reachBytes at h1; simp only; omega, by have h1 := s3.few; have h2 := s3.len; unfold reachBytes at h1; simp only; omega, by have h1 := s4.few; have h2 := s4.len; unfold reachBytes at h1; simp only; omega, by have h1 := s5.few; have h2 := s5.len; unfold reachBytes at h1; simp only; omega, fun t ht => m6 t ht, fun t ht => m9 t ht, fun t ht => m10 t ht⟩⟩
  apply Array.ext'
  apply List.ext_getElem?
  intro k
  have hs : (clV ⟨R, ses, suites, vers, grps, schs, shs, cook, modes, ids, bnd⟩ ⟨p1, n1, c1, p2, n2, c2, p3, n3, c3, p4, n4, c4, p5, n5, c5, p6, n6, c6, p7, n7, c7, p8, n8, c8, p9, n9, c9, p10, n10, c10⟩).toList = R.map B8 ++ [.slice p1 n1 c1, .slice p2 n2 c2, .slice p3 n3 c3, .slice p4 n4 c4, .slice p5 n5 c5, .slice p6 n6 c6, .slice p7 n7 c7, .slice p8 n8 c8, .slice p9 n9 c9, .slice p10 n10 c10] := rfl
  rw [hs, Array.getElem?_toList]
  by_cases hk : k < 32
  · rw [List.getElem?_append_left (by rw [List.length_map, hR]; exact hk)]
    have h := k0 k (by omega)
    rw [Nat.zero_add] at h
    rw [h]
    simp [hR, hk]
  · rw [List.getElem?_append_right (by rw [List.length_map, hR]; omega), List.length_map, hR]
    have hc : k = 32 ∨ k = 33 ∨ k = 34 ∨ k = 35 ∨ k = 36 ∨ k = 37 ∨ k = 38 ∨ k = 39 ∨ k = 40 ∨ k = 41 ∨ 42 ≤ k := by omega
    rcases hc with rfl | rfl | rfl | rfl | rfl | rfl | rfl | rfl | rfl | rfl | hc
    · exact k1
    · exact k2
    · exact k3
    · exact k4
    · exact k5
    · exact k6
    · exact k7
    · exact k8
    · exact k9
    · exact k10
    · rw [Array.getElem?_eq_none (by omega), List.getElem?_eq_none (by simp; omega)]
end Go.Proofs.Ytegmimnhkohaoaa
/-
  How the bytes that a law is handed read in the words of the walks, beside where they lie. No condition.
-/
namespace Go.Proofs.Ytegmimnhkohaoaa
open Go.RowKit Go.Kx Go.WideShapes
set_option maxRecDepth 100000
/-- What the walk is told of a slice of bytes. -/
def RawIn (w : World) (a : Option Addr) (len cap : Nat) : Prop := ∃ l : List UInt8, Rd w (· < w.heap.size) a l ∧ l.length = len ∧ len ≤ cap ∧ cap ≤ maxLen ∧ (a = none → cap = 0) ∧ (∀ x, a = some x → x.spot = none ∧ x.block < w.heap.size)
theorem rawIn {W : World} {base : Nat} {a : Option Addr} {len cap : Nat} {zs : List Int} (hv : Value.okWide Try.prog W .any base 23 (.slice a len cap)) (h : IsRow .u8 W a len cap zs) : RawIn W a len cap := by
  obtain ⟨l, h1, h2, h3, h4, h5⟩ := open_bytes h
  refine ⟨l, h1, h2, h3, h4, h5, ?_⟩
  rintro x rfl
  simp only [Value.okWide, Try.underlying23, Cell.okWide] at hv
  simp only [Cell.ok, Try.underlying23] at hv
  obtain ⟨_, _, _, h6, row, cells, h7, _⟩ := hv
  refine ⟨h6, ?_⟩
  unfold World.shape? at h7
  split at h7
  · rename_i hh
    exact (Array.getElem?_eq_some_iff.1 hh).1
  · cases h7
end Go.Proofs.Ytegmimnhkohaoaa
/-
  HelloExtras' walk and the opening of its arguments, together. No condition.
-/

