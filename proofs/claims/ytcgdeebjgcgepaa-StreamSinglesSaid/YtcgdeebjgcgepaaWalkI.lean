/-
  The law's own takes returns true, and changes nothing that was there. No condition.
-/
import Derived.Test.YtcgdeebjgcgepaaWalkH
namespace Go.Proofs.Ytcgdeebjgcgepaa
open Go.RowKit Go.Kx

def TakeN (w : World) (r g : Nat) (l : List UInt8) (E : Int) (e : Ending) (w' : World) : Prop :=
  e = .returned (.tuple #[.int .i64 0, .slice none 0 0, .bool false, .int .i64 E]) ∧ Rdr w' r g l E ∧ Only (· = r) w w'
theorem take_none (r g : Nat) (l : List UInt8) (E : Int) (w : World) (hr : Rdr w r g l 0) (hl : l.length ≤ 140737488355328) (ht : takeS l = (E, none)) : Calls Try.prog 6 #[rp r] w (TakeN w r g l E) :=
  (take_c r g l w hr hl).mono fun _ _ h => h.1 E ht
def TakeY (w : World) (r : Nat) (k : UInt8) (body rest : List UInt8) (e : Ending) (w' : World) : Prop :=
  ∃ g1 k1 g2, e = .returned (.tuple #[.int .i64 (k.toNat : Int), .slice (some ⟨g1, 0, none⟩) body.length k1, .bool true, .int .i64 0]) ∧
    Own w' g1 (.slice (some ⟨g1, 0, none⟩) body.length k1) body ∧ w.heap.size ≤ g1 ∧ g1 < w'.heap.size ∧ w.heap.size ≤ g2 ∧ g1 ≠ g2 ∧ Rdr w' r g2 rest 0 ∧ Only (· = r) w w'
theorem take_yes (r g : Nat) (l : List UInt8) (k : UInt8) (body rest : List UInt8) (w : World) (hr : Rdr w r g l 0) (hl : l.length ≤ 140737488355328) (ht : takeS l = (0, some (k, body, rest))) : Calls Try.prog 6 #[rp r] w (TakeY w r k body rest) :=
  (take_c r g l w hr hl).mono fun _ _ h => h.2 k body rest ht

theorem tk1 : takeS ([23, 3, 3, 0] ++ [1, 5, 9]) = (0, some (23, [5], [9])) := by decide
theorem tk0 : takeS [23, 3, 3, 0] = (0, none) := by decide
theorem tk2 : takeS [9] = (3, none) := by decide

set_option maxRecDepth 100000 in
theorem takes_c (w : World) : Calls Try.prog 7 #[] w fun e w' => e = .returned (.bool true) ∧ Below w.heap.size w w' := by
  have hx : Rd (w.alloc (.cells #[.int .u8 23, .int .u8 3, .int .u8 3, .int .u8 0] 5)) (· = w.heap.size) (some ⟨w.heap.size, 0, none⟩) [23, 3, 3, 0] := Rd.lit w [23, 3, 3, 0]
  go_enter Try.func7, Try.ntmps7
  go_wp2_with fail
  refine (new_c _ _ _ _ _ _ hx (by intro h; cases h) (by simp) rfl).mono ?_
  rintro e w1 ⟨r, g, rfl, hr, hr1, hg, hR, hB⟩
  have b1 : Below w.heap.size w w1 := ((Below.refl _ _).alloc (Nat.le_refl _) _).trans (hB.mono (by simp))
  have HB := Lib.hid b1
  have z1 := b1.size
  clear hx hB b1
  have HR := Lib.hid hR
  clear hR
  simp only [World.size_alloc] at hr hg
  go_wp2_with fail
  refine (take_none r g _ 0 _ HR.out (by simp) tk0).mono ?_
  rintro e w2 ⟨rfl, hR2, hO2⟩
  clear HR
  have HR2 := Lib.hid hR2
  have HO2 := Lib.hid hO2
  have z2 := hO2.size
  clear hR2 hO2
  go_wp2_with fail
  have hx3 : Rd (w2.alloc (.cells #[.int .u8 1, .int .u8 5, .int .u8 9] 5)) (· = w2.heap.size) (some ⟨w2.heap.size, 0, none⟩) [1, 5, 9] := Rd.lit w2 [1, 5, 9]
  have hG2 := HR2.out.1
  refine (feed_c r g _ _ _ _ _ _ _ (HR2.out.only (Only.alloc (Only.refl (fun _ => False) w2) _) (fun h => h) (fun h => h)) hx3 rfl (by intro h; cases h) (by simp)).mono ?_
  rintro e w3 ⟨rfl, g3, hR3, hg3, hO3⟩
  clear HR2 hx3
  have HR3 := Lib.hid hR3
  have HO3 := Lib.hid hO3
  have HG3 := Lib.hid hg3
  have z3 := hO3.size
  simp only [World.size_alloc] at z3
  clear hR3 hO3 hg3
  go_wp2_with fail
  refine (take_yes r g3 _ 23 [5] [9] _ HR3.out (by simp) tk1).mono ?_
  rintro e w4 ⟨g4, k4, g5, rfl, ho4, h41, h42, h43, h44, hR4, hO4⟩
  clear HR3
  have HR4 := Lib.hid hR4
  have HO4 := Lib.hid hO4
  have HW4 := Lib.hid ho4
  have z4 := hO4.size
  clear hR4 hO4 ho4
  go_wp2_with fail
  refine (take_none r g5 _ 3 _ HR4.out (by simp) tk2).mono ?_
  rintro e w5 ⟨rfl, hR5, hO5⟩
  have HR5 := Lib.hid hR5
  have HO5 := Lib.hid hO5
  have HW5 := Lib.hid (HW4.out.only hO5 (by omega))
  have z5 := hO5.size
  have c5 : w5.cell? ⟨g4, 0, none⟩ = some (.int .u8 5) := by
    obtain ⟨g', o', he, _, _, hc⟩ := HW5.out.rd.at (by simp)
    cases he
    exact hc 0 (by simp)
  clear hR5 hO5 HR4 HW4
  go_wp2_with fail
  refine (left_c r g5 _ 3 _ HR5.out (by simp)).mono ?_
  rintro e w6 ⟨g6, p6, c6, rfl, h61, h62, ho6, hB6⟩
  have HR6 := Lib.hid (HR5.out.only (Only.of_below (r := fun _ => False) hB6) (fun h => h) (fun h => h))
  have HB6 := Lib.hid hB6
  have z6 := hB6.size
  clear HR5 ho6 hB6
  go_wp2_with fail
  obtain ⟨_, _, _, hb6, _⟩ := HR6.out
  refine (feed_bad r _ _ 3 _ hb6 (by decide)).mono ?_
  rintro e w7 ⟨rfl, rfl⟩
  go_wp2
  go_ret
  refine ⟨rfl, ?_⟩
  have b2 := below_only HB.out z1 HO2.out (by intro k hk e; omega)
  have b3 := below_only (b2.alloc (by omega) _) (by simp; omega) HO3.out (by intro k hk e; omega)
  have b4 := below_only b3 (by omega) HO4.out (by intro k hk e; omega)
  have b5 := below_only b4 (by omega) HO5.out (by intro k hk e; omega)
  exact b5.trans (HB6.out.mono (by omega))
end Go.Proofs.Ytcgdeebjgcgepaa
