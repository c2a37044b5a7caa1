/-
  The walk of CursorWrongs: it returns true, and changes nothing that lay there. Conditions: those of the row that is handed over.
-/
import Derived.Test.YtmmifenihjmmiaaRefC
namespace Go.Proofs.Ytmmifenihjmmiaa
open Go.RowKit Go.Kx

theorem badS_bad {s : List UInt8} {E n : Int} (h : E ≠ 0) : badS s E n = E := by unfold badS rm; rw [if_neg h, if_neg h]; split <;> (try split) <;> rfl
theorem outS_bad {s : List UInt8} {E n : Int} (h : E ≠ 0) : outS s E n = [] := by unfold outS; rw [badS_bad h, if_neg h]
theorem leftS_bad {s : List UInt8} {E n : Int} (h : E ≠ 0) : leftS s E n = s := by unfold leftS; rw [badS_bad h, if_neg h]
theorem wb_bad {E n : Int} (h : E ≠ 0) : wb E n = E := by unfold wb rm; rw [if_neg h]; split <;> rfl
theorem vecS_bad {s : List UInt8} {E a b c : Int} (h : E ≠ 0) : vecS s E a b c = ([], s, E) := by
  unfold vecS
  simp only [wb_bad h, badS_bad h, outS_bad h, leftS_bad h]
  rw [if_neg (fun hh => h hh.1)]
theorem doneS_bad {s : List UInt8} {E : Int} (h : E ≠ 0) : doneS s E = E := by unfold doneS; rw [if_neg h]

theorem hop9 (n : Int) : ∃ K : Nat, wrap64 ((IntKind.u64.wrap n).tmod 9) = (K : Int) ∧ K < 9 := by
  have h0 : 0 ≤ IntKind.u64.wrap n := by rw [IntKind.wrap_u64]; omega
  rw [Int.tmod_eq_emod_of_nonneg h0]
  generalize IntKind.u64.wrap n = y at h0
  have h1 : 0 ≤ y % 9 ∧ y % 9 < 9 := ⟨Int.emod_nonneg _ (by omega), Int.emod_lt_of_pos _ (by omega)⟩
  generalize y % 9 = x at h1
  rw [IntWalk.wrap64_in x ⟨by omega, by omega⟩]
  exact ⟨x.toNat, by omega, by omega⟩

set_option maxHeartbeats 4000000 in
set_option maxRecDepth 100000 in
theorem wrongs_c (p0 : Option Addr) (n0 c0 : Nat) (l0 : List UInt8) (n : Int) (first : Bool) (w : World) (h0 : Rd w (· < w.heap.size) p0 l0) (hn0 : l0.length = n0) (hm0 : c0 ≤ maxLen) (hc0 : n0 ≤ c0) (hp0 : p0 = none → c0 = 0) :
    Calls Try.prog 6 #[.slice p0 n0 c0, .int .i64 n, .bool first] w fun e w' => e = .returned (.bool true) ∧ Below w.heap.size w w' := by
  unfold maxLen at hm0
  obtain ⟨N, hN⟩ : ∃ N, N = min n0 40 := ⟨_, rfl⟩
  have hmin : min (n0 : Int) 40 = (N : Int) := by omega
  have hN1 : N ≤ 40 := by omega
  have hN2 : N ≤ c0 := by omega
  have hl : (l0.take N).length = N := by rw [List.length_take]; omega
  have hR := h0.take N
  have HL := Lib.hid (And.intro hl hR)
  clear h0 hn0 hN hl hR
  generalize hlt : l0.take N = l at *
  clear hlt l0
  obtain ⟨K, hK, hK8⟩ := hop9 n
  go_enter Try.func6, Try.ntmps6
  go_upto_region 1 with (fail)
  go_cut [0] (fun v0 wx => v0 = .slice p0 N c0 ∧ w = wx)
  case first =>
    go_wp2
    all_goals go_meet
    all_goals exact ⟨by congr 1; omega, rfl⟩
  case rest =>
  obtain ⟨rfl, rfl⟩ := hcut
  clear hmin
  cases first
  case true =>
    go_wp2_with (first
      | (go_at_call 9; refine (new_c (· < w.heap.size) _ _ _ l _ HL.out.2 hp0 (by rw [HL.out.1]; omega) HL.out.1).mono ?_; rintro e w1 ⟨r, g, rfl, k1, k2, k3, k4, k5⟩; have z1 := k5.size)
      | (go_at_call 20; refine (fail_c r g l 0 _ k4).mono ?_; rintro e w2 ⟨rfl, j1, j2⟩; have z2 := j2.size)
      | (go_at_call 13; refine (puts_c _).mono ?_; rintro e w3 ⟨rfl, i2⟩; have z3 := i2.size; have i1 := Cur.only j1 (Only.of_below (r := fun _ => False) i2) (fun h => h) (fun h => h))
      | (go_at_call 10; refine (left_c r g l 3 _ (by assumption)).mono ?_; rintro e w4 ⟨rfl, rfl⟩)
      | (go_at_call 15; refine (isWrong_c r g l 3 _ (by assumption)).mono ?_; rintro e w5 ⟨rfl, rfl⟩)
      | (go_at_call 12; refine (uint_c r g l 3 1 _ i1).mono ?_; rintro e w6 ⟨rfl, i6, o6⟩; rw [wb_bad (by decide), leftS_bad (by decide), badS_bad (by decide)] at i6; rw [wb_bad (by decide), outS_bad (by decide)])
      | (go_at_call 18; refine (bytes_c r g l 3 1 _ i6 (by rw [HL.out.1]; omega)).mono ?_; rintro e w7 ⟨g7, p7, c7, rfl, k7, h7, i7, o7⟩; rw [leftS_bad (by decide), badS_bad (by decide)] at i7; rw [outS_bad (by decide)])
      | (go_at_call 11; refine (vector_c r g l 3 1 0 99 _ i7 (by rw [HL.out.1]; omega)).mono ?_; rintro e w8 ⟨g8, p8, c8, rfl, k8, h8, i8, o8⟩; rw [vecS_bad (by decide)] at i8; rw [vecS_bad (by decide)])
      | (go_at_call 14; refine (done_c r g l 3 _ i8).mono ?_; rintro e w9 ⟨rfl, rfl⟩; rw [doneS_bad (by decide)]))
    go_ret
    have z6 := o6.size
    have z7 := o7.size
    have b2 : Below w.heap.size w w2 := below_only k5 z1 j2 (by intro k hk e; omega)
    have b3 : Below w.heap.size w w3 := b2.trans (i2.mono (by omega))
    have b6 : Below w.heap.size w w6 := below_only b3 (by omega) o6 (by intro k hk e; omega)
    have b7 : Below w.heap.size w w7 := below_only b6 (by omega) o7 (by intro k hk e; omega)
    have b8 : Below w.heap.size w w8 := below_only b7 (by omega) o8 (by intro k hk e; omega)
    exact ⟨rfl, b8⟩
  case false =>
    have hbad : badS l 0 ((N : Int) + 1 + (K : Int)) = 2 := by unfold badS rm; rw [if_neg (by omega), if_pos (by rw [HL.out.1]; omega), if_pos rfl]
    have hleft : leftS l 0 ((N : Int) + 1 + (K : Int)) = l := by unfold leftS; rw [hbad, if_neg (by decide)]
    obtain ⟨M, hM⟩ : ∃ M : Int, (N : Int) + 1 + (K : Int) = M := ⟨_, rfl⟩
    rw [hM] at hbad hleft
    have HX := Lib.hid (And.intro hbad hleft)
    clear hbad hleft
    go_wp2_with (first
      | (go_at_call 9; refine (new_c (· < w.heap.size) _ _ _ l _ HL.out.2 hp0 (by rw [HL.out.1]; omega) HL.out.1).mono ?_; rintro e w1 ⟨r, g, rfl, k1, k2, k3, k4, k5⟩; have z1 := k5.size)
      | (go_at_call 20; refine (fail_c r g l 2 _ ib).mono ?_; rintro e w2 ⟨rfl, j1, j2⟩; have z2 := j2.size)
      | (go_at_call 13; refine (puts_c _).mono ?_; rintro e w3 ⟨rfl, i2⟩; have z3 := i2.size; have i1 := Cur.only j1 (Only.of_below (r := fun _ => False) i2) (fun h => h) (fun h => h))
      | (go_at_call 10; refine (left_c r g l 2 _ (by assumption)).mono ?_; rintro e w4 ⟨rfl, rfl⟩)
      | (go_at_call 15; refine (isWrong_c r g l 2 _ (by assumption)).mono ?_; rintro e w5 ⟨rfl, rfl⟩)
      | (go_at_call 12; refine (uint_c r g l 2 1 _ i1).mono ?_; rintro e w6 ⟨rfl, i6, o6⟩; rw [wb_bad (by decide), leftS_bad (by decide), badS_bad (by decide)] at i6; rw [wb_bad (by decide), outS_bad (by decide)])
      | (go_at_call 18; refine (bytes_c r g l 2 1 _ i6 (by rw [HL.out.1]; omega)).mono ?_; rintro e w7 ⟨g7, p7, c7, rfl, k7, h7, i7, o7⟩; rw [leftS_bad (by decide), badS_bad (by decide)] at i7; rw [outS_bad (by decide)])
      | (go_at_call 18; refine (bytes_c r g l 0 M _ k4 (by rw [HL.out.1]; omega)).mono ?_; rintro e wb ⟨gb, pb, cb, rfl, kb, hb, ib, ob⟩; rw [HX.out.1, HX.out.2] at ib; have zb := ob.size)
      | (go_at_call 11; refine (vector_c r g l 2 1 0 99 _ i7 (by rw [HL.out.1]; omega)).mono ?_; rintro e w8 ⟨g8, p8, c8, rfl, k8, h8, i8, o8⟩; rw [vecS_bad (by decide)] at i8; rw [vecS_bad (by decide)])
      | (go_at_call 14; refine (done_c r g l 2 _ i8).mono ?_; rintro e w9 ⟨rfl, rfl⟩; rw [doneS_bad (by decide)]))
    go_ret
    have z6 := o6.size
    have z7 := o7.size
    have b2 : Below w.heap.size w w2 := below_only k5 z1 (ob.then j2) (by intro k hk e; omega)
    have b3 : Below w.heap.size w w3 := b2.trans (i2.mono (by omega))
    have b6 : Below w.heap.size w w6 := below_only b3 (by omega) o6 (by intro k hk e; omega)
    have b7 : Below w.heap.size w w7 := below_only b6 (by omega) o7 (by intro k hk e; omega)
    have b8 : Below w.heap.size w w8 := below_only b7 (by omega) o8 (by intro k hk e; omega)
    exact ⟨rfl, b8⟩
end Go.Proofs.Ytmmifenihjmmiaa
