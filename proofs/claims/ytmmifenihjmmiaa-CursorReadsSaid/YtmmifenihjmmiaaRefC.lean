/-
  The contracts of relayref07's PutUint and PutVector, and of the laws' own puts and none. Conditions: together at most 2 to the 47th bytes.
-/
import Derived.Test.YtmmifenihjmmiaaCurE
import Derived.Laws.BytesArg
import Derived.Lib.SlBytesConst
namespace Go.Proofs.Ytmmifenihjmmiaa
open Go.RowKit Go.Kx

theorem run_str {w : World} {S : Nat → Prop} {p : Option Addr} {n c : Nat} {l : List UInt8} (h : Rd w S p l) (hn : l.length = n) :
    (convert 24 9 (.slice p n c)).run Try.prog w = .ok (.string ⟨l.toArray⟩) w := by
  subst hn
  cases p with
  | none =>
    have := h.none_nil
    subst this
    exact run_convert_bytes_nil w 24 5 Try.underlying24 Try.underlying5 _ _ 9 Try.underlying9
  | some a =>
    cases l with
    | nil =>
      show Sem.run Try.prog (convert 24 9 (.slice (some a) 0 c)) w = _
      rw [run_convert_bytes_string w 24 9 5 a 0 c Try.underlying24 Try.underlying5 Try.underlying9, run_bytesToString w a 0 c [] (by simp [loadCells, loadCellsFrom, Sem.run_pure])]
      rfl
    | cons b t =>
      obtain ⟨g, o, he, _, _, hc⟩ := h.at (by simp)
      cases he
      rw [run_convert_bytes_arg w 24 5 Try.underlying24 Try.underlying5 g o _ c ((b :: t).map fun x => (x.toNat : Int)) (by simp) (fun i hi => by rw [hc i hi, List.getD_eq_getElem?_getD, List.getElem?_map, List.getElem?_eq_getElem hi]; rfl) 9 Try.underlying9]
      congr 2
      unfold strOfNums
      congr 2
      rw [List.map_map]
      have : ∀ l : List UInt8, l.map ((fun n => UInt8.ofNat n.toNat) ∘ fun x => ((x.toNat : Nat) : Int)) = l := by
        intro l
        induction l with
        | nil => rfl
        | cons x r ih => rw [List.map_cons, ih]; simp
      exact this _

theorem run_strO {w : World} {g : Nat} {p : Option Addr} {n c : Nat} {l : List UInt8} (h : Own w g (.slice p n c) l) (hn : l.length = n) :
    (convert 24 9 (.slice p n c)).run Try.prog w = .ok (.string ⟨l.toArray⟩) w := run_str h.rd hn

theorem Rd.litm (w : World) (l : List UInt8) (m : Nat × Nat) : Rd (w.alloc (.cells (l.map B8).toArray 5 m)) (· = w.heap.size) (some ⟨w.heap.size, 0, none⟩) l := by
  refine Rd.of_at rfl fun i hi => ?_
  have h := heap_alloc_new w (.cells (l.map B8).toArray 5 m)
  unfold World.cell?
  rw [h]
  simp [hi]

theorem none_c (w : World) : Calls Try.prog 19 #[] w fun e w' => e = .returned (.pointer none) ∧ w = w' := by
  go_enter Try.func19, Try.ntmps19
  go_wp2
  go_ret
  exact ⟨rfl, rfl⟩

set_option maxRecDepth 100000 in
theorem puts_c (w : World) : Calls Try.prog 13 #[] w fun e w' => e = .returned (.bool true) ∧ Below w.heap.size w w' := by
  have hbe : [] ++ be 2 2 ++ [97, 98] = [0, 2, 97, 98] := by decide
  have hvec : vecS [0, 2, 97, 98] 0 2 0 9 = ([97, 98], [], 0) := by decide
  have q1 := Lib.run_convert_bytes_const (P := Try.prog) w 24 5 #[.int .u8 97, .int .u8 98] 2 2 Try.underlying24 Try.underlying5
  simp only [List.size_toArray, List.length_cons, List.length_nil] at q1
  have hlit := Rd.litm w [97, 98] (2, 3)
  have hB0 : Below w.heap.size w (w.alloc (.cells (List.map B8 [97, 98]).toArray 5 (2, 3))) := (Below.refl _ _).alloc (Nat.le_refl _) _
  have HL := Lib.hid (And.intro hlit hB0)
  clear hlit hB0
  go_enter Try.func13, Try.ntmps13
  go_wp2_with (first
    | (go_at_call 8; (refine (vec_yes (fun _ => True) (· = w.heap.size) none (some ⟨w.heap.size, 0, none⟩) 0 0 2 2 [] [97, 98] 2 _ (Rd.nil _ _ _) (fun _ => rfl) rfl HL.out.1 (by intro h; cases h) rfl (by simp) (by omega) (by decide)).mono ?_; rintro e w1 ⟨g, n1, c', rfl, hn1, h1, h2, h3, h4, h5, h6⟩; rw [hbe] at hn1 h5))
    | (go_at_call 9; refine (new_c (· = g) _ _ _ [0, 2, 97, 98] _ h5.rd (by intro h; cases h) (by simp) hn1).mono ?_; rintro e w2 ⟨r, g2, rfl, k1, k2, k3, k4, k5⟩))
  refine (vector_c r g2 _ 0 2 0 9 _ k4 (by simp)).mono ?_
  rintro e w3 ⟨g3, p3, c3, rfl, j1, j2, j3, j4⟩
  rw [hvec] at j2 j3
  have h52 := Own.only h5 (Only.of_below (r := fun _ => False) k5) (fun h => h)
  have h53 := Own.only h52 j4 (by show ¬ g = r; omega)
  have s1 := run_strO h53 hn1
  have s2 := run_strO (n := 2) j2 rfl
  rw [hvec]
  go_wp2_with (first
    | (go_at_call 14; refine (done_c r g2 [] 0 _ j3).mono ?_; rintro e w4 ⟨rfl, rfl⟩)
    | (go_at_call 10; refine (left_c r g2 [] 0 _ j3).mono ?_; rintro e w5 ⟨rfl, rfl⟩))
  go_ret
  have hB0 := HL.out.2
  generalize w.alloc (.cells (List.map B8 [97, 98]).toArray 5 (2, 3)) = A at *
  have z0 := hB0.size
  have z1 := h6.size
  have z2 := k5.size
  exact ⟨rfl, hB0.trans ((h6.mono z0).trans ((k5.mono (Nat.le_trans z0 z1)).trans (j4.below (by omega) (fun k hk e => by omega))))⟩
end Go.Proofs.Ytmmifenihjmmiaa
