/-
  The contract of relayref09's Take. Conditions: a row that lies somewhere, of a length that a machine has.
-/
import Derived.Test.YtkgeecejgpekkaaMsgR
namespace Go.Proofs.Ytkgeecejgpekkaa
open Go.RowKit Go.Kx

def whatM (b : List UInt8) : Int := if (takeM b).2.2.2.1 = true then 1 else if (takeM b).2.2.2.2 = 0 then 0 else 2

def RTakeMR (w : World) (S : Nat → Prop) (b : List UInt8) (e : Ending) (w' : World) : Prop :=
  ∃ p1 n1 c1 p2 n2 c2, e = .returned (.tuple #[.agg #[.int .i64 ((takeM b).1 : Int), .slice p1 n1 c1], .slice p2 n2 c2, .int .i64 (whatM b)]) ∧ (takeM b).2.1.length = n1 ∧ (takeM b).2.2.1.length = n2 ∧ Rd w' S p1 (takeM b).2.1 ∧ Rd w' S p2 (takeM b).2.2.1 ∧ Below w.heap.size w w'

set_option maxHeartbeats 4000000 in
theorem rmtake_short (S : Nat → Prop) (p : Option Addr) (n c : Nat) (b : List UInt8) (w : World) (hR : Rd w S p b) (hn : b.length = n) (h4 : n < 4) :
    Calls Try.prog 10 #[.slice p n c] w (RTakeMR w S b) := by
  have hB0 : Below w.heap.size w (w.alloc (.cells #[.int .i64 0, .slice none 0 0] 25)) := (Below.refl _ _).alloc (Nat.le_refl _) _
  have hbx : Box2 (w.alloc (.cells #[.int .i64 0, .slice none 0 0] 25)) w.heap.size 25 (.int .i64 0) (.slice none 0 0) := Box2.new _ _ _ _
  have f0 := hbx.fr 0
  have f1 := hbx.fr 1
  have t0 := hbx.c0
  have t1 := hbx.c1
  have HB := Lib.hid (And.intro hB0 (hR.below hB0))
  clear hbx hB0 hR
  have ht : takeM b = (0, [], b, false, 0) := by unfold takeM; rw [if_pos (by omega)]
  have hw : whatM b = 0 := by unfold whatM; rw [ht]; rfl
  have HT := Lib.hid (And.intro ht hw)
  clear ht hw
  go_enter Try.func10, Try.ntmps10
  go_wp2
  refine bodyPost_ret (v := .tuple #[.agg #[.int .i64 0, .slice none 0 0], .slice p n c, .int .i64 0]) (by simp [results, Try.results10, go_sem, t0, t1]) rfl ?_
  refine ⟨none, 0, 0, p, n, c, ?_, ?_, ?_, ?_, ?_, HB.out.1⟩
  · rw [HT.out.1, HT.out.2]; rfl
  · rw [HT.out.1]; rfl
  · rw [HT.out.1]; exact hn
  · rw [HT.out.1]; exact Rd.nil _ _ _
  · rw [HT.out.1]; exact HB.out.2

/-- The end: what is stored in the result's variable; the row is as it was. -/
theorem rt_end {S : Nat → Prop} {p : Option Addr} {b : List UInt8} {w W : World} {x y : Value} (u v : Value) (hB : Below w.heap.size w W) (hbx : Box2 W w.heap.size 25 x y) (hR : Rd w S p b) :
    Box2 ((W.setCell ⟨w.heap.size, 0, none⟩ u).setCell ⟨w.heap.size, 1, none⟩ v) w.heap.size 25 u v ∧ Below w.heap.size w ((W.setCell ⟨w.heap.size, 0, none⟩ u).setCell ⟨w.heap.size, 1, none⟩ v) ∧ Rd ((W.setCell ⟨w.heap.size, 0, none⟩ u).setCell ⟨w.heap.size, 1, none⟩ v) S p b := by
  have hs2 := set2_only W w.heap.size u v
  have hB2 := below_only hB hB.size hs2 (by intro k hk e; omega)
  exact ⟨(hbx.set0 u).set1 v, hB2, hR.below hB2⟩

theorem be3 (b1 b2 b3 : UInt8) : beN [b1, b2, b3] = b1.toNat * 65536 + b2.toNat * 256 + b3.toNat := by
  simp [beN]; omega

set_option maxHeartbeats 4000000 in
theorem rmtake_long (S : Nat → Prop) (g o n c : Nat) (b0 b1 b2 b3 : UInt8) (t : List UInt8) (w : World) (hR : Rd w S (some ⟨g, o, none⟩) (b0 :: b1 :: b2 :: b3 :: t)) (hn : (b0 :: b1 :: b2 :: b3 :: t).length = n) (hnc : n ≤ c) (hcm : c ≤ maxLen) :
    Calls Try.prog 10 #[.slice (some ⟨g, o, none⟩) n c] w (RTakeMR w S (b0 :: b1 :: b2 :: b3 :: t)) := by
  unfold maxLen at hcm
  obtain ⟨M, hM⟩ : ∃ M, M = b1.toNat * 65536 + b2.toNat * 256 + b3.toNat := ⟨_, rfl⟩
  have x0 := b0.toNat_lt
  have x1 := b1.toNat_lt
  have x2 := b2.toNat_lt
  have x3 := b3.toNat_lt
  have h4 : 4 ≤ n := by rw [← hn]; simp
  have htl : t.length = n - 4 := by rw [← hn]; simp
  have htk : takeM (b0 :: b1 :: b2 :: b3 :: t) = if 2048 < M then (0, [], [], false, 3) else if n < M + 4 then (0, [], b0 :: b1 :: b2 :: b3 :: t, false, 0) else (b0.toNat, t.take M, t.drop M, true, 0) := by
    unfold takeM
    rw [if_neg (by omega), hn]
    simp only [List.drop_succ_cons, List.drop_zero, List.take_succ_cons, List.take_zero]
    rw [be3, ← hM]
    simp [beN]
  have hB0 : Below w.heap.size w (w.alloc (.cells #[.int .i64 0, .slice none 0 0] 25)) := (Below.refl _ _).alloc (Nat.le_refl _) _
  have hbx : Box2 (w.alloc (.cells #[.int .i64 0, .slice none 0 0] 25)) w.heap.size 25 (.int .i64 0) (.slice none 0 0) := Box2.new _ _ _ _
  have hR1 := hR.below hB0
  have hat : ∀ i (h : i < (b0 :: b1 :: b2 :: b3 :: t).length), (w.alloc (.cells #[.int .i64 0, .slice none 0 0] 25)).cell? ⟨g, o + i, none⟩ = some (.int .u8 ((b0 :: b1 :: b2 :: b3 :: t)[i].toNat : Int)) := by
    obtain ⟨g', o', he, _, _, hc⟩ := hR1.at (by simp)
    cases he
    exact hc
  have e0 := hat 0 (by simp)
  have e1 := hat 1 (by simp)
  have e2 := hat 2 (by simp)
  have e3 := hat 3 (by simp)
  simp at e0 e1 e2 e3
  clear hat
  have hgl : g < w.heap.size := by obtain ⟨g', o', he, _, hlt, _⟩ := hR.at (by simp); cases he; exact hlt
  have HX := Lib.hid (And.intro hB0 (And.intro hbx hR))
  have HTK := Lib.hid htk
  have m1 : IntKind.i64.wrap ((b1.toNat : Int) * 65536) = (b1.toNat : Int) * 65536 := IntWalk.i64_in _ ⟨by omega, by omega⟩
  have m2 : IntKind.i64.wrap ((b2.toNat : Int) * 256) = (b2.toNat : Int) * 256 := IntWalk.i64_in _ ⟨by omega, by omega⟩
  have m3 : IntKind.i64.wrap ((b1.toNat : Int) * 65536 + (b2.toNat : Int) * 256) = (b1.toNat : Int) * 65536 + (b2.toNat : Int) * 256 := IntWalk.i64_in _ ⟨by omega, by omega⟩
  have m4 : IntKind.i64.wrap ((b1.toNat : Int) * 65536 + (b2.toNat : Int) * 256 + (b3.toNat : Int)) = (M : Int) := by rw [IntWalk.i64_in _ ⟨by omega, by omega⟩]; omega
  have hMb : M ≤ 16777215 := by omega
  have i1 : (1 : Int) < (n : Int) := by omega
  have i2 : (2 : Int) < (n : Int) := by omega
  have i3 : (3 : Int) < (n : Int) := by omega
  have i0 : (0 : Int) < (n : Int) := by omega
  have i4 : ¬ (n : Int) < 4 := by omega
  clear htk hB0 hR hR1
  have f0 := hbx.fr 0
  have f1 := hbx.fr 1
  have t0 := hbx.c0
  have t1 := hbx.c1
  clear hbx hM
  by_cases hM1 : 2048 < M
  · have hM1i : (2048 : Int) < (M : Int) := by omega
    go_enter Try.func10, Try.ntmps10
    go_wp2
    go_quiet (fail)
    go_wp2
    have hX := rt_end (.int .i64 0) (.slice none 0 0) (below_only HX.out.1 HX.out.1.size (Only.drewN nq (Only.refl (fun _ => False) _)) (fun _ _ h => h)) (HX.out.2.1.only (Only.drewN nq (Only.refl (fun _ => False) _)) (fun h => h)) HX.out.2.2
    have d0 := hX.1.c0
    have d1 := hX.1.c1
    have ht : takeM (b0 :: b1 :: b2 :: b3 :: t) = (0, [], [], false, 3) := by rw [HTK.out, if_pos hM1]
    refine bodyPost_ret (v := .tuple #[.agg #[.int .i64 0, .slice none 0 0], .slice none 0 0, .int .i64 2]) (by simp [results, Try.results10, go_sem, d0, d1]) rfl ?_
    refine ⟨none, 0, 0, none, 0, 0, ?_, ?_, ?_, ?_, ?_, hX.2.1⟩
    · unfold whatM; rw [ht]; rfl
    · rw [ht]; rfl
    · rw [ht]; rfl
    · rw [ht]; exact Rd.nil _ _ _
    · rw [ht]; exact Rd.nil _ _ _
  · have hM1i : ¬ (2048 : Int) < (M : Int) := by omega
    have m5 : IntKind.i64.wrap (4 + (M : Int)) = 4 + (M : Int) := IntWalk.i64_in _ ⟨by omega, by omega⟩
    by_cases hM2 : n < M + 4
    · have hM2i : (n : Int) < 4 + (M : Int) := by omega
      go_enter Try.func10, Try.ntmps10
      go_wp2
      go_quiet (fail)
      go_wp2
      have hX := rt_end (.int .i64 0) (.slice none 0 0) (below_only HX.out.1 HX.out.1.size (Only.drewN nq (Only.refl (fun _ => False) _)) (fun _ _ h => h)) (HX.out.2.1.only (Only.drewN nq (Only.refl (fun _ => False) _)) (fun h => h)) HX.out.2.2
      have d0 := hX.1.c0
      have d1 := hX.1.c1
      have ht : takeM (b0 :: b1 :: b2 :: b3 :: t) = (0, [], b0 :: b1 :: b2 :: b3 :: t, false, 0) := by rw [HTK.out, if_neg hM1, if_pos hM2]
      refine bodyPost_ret (v := .tuple #[.agg #[.int .i64 0, .slice none 0 0], .slice (some ⟨g, o, none⟩) n c, .int .i64 0]) (by simp [results, Try.results10, go_sem, d0, d1]) rfl ?_
      refine ⟨none, 0, 0, some ⟨g, o, none⟩, n, c, ?_, ?_, ?_, ?_, ?_, hX.2.1⟩
      · unfold whatM; rw [ht]; rfl
      · rw [ht]; rfl
      · rw [ht]; exact hn
      · rw [ht]; exact Rd.nil _ _ _
      · rw [ht]; exact hX.2.2
    · have hM2i : ¬ (n : Int) < 4 + (M : Int) := by omega
      have m6 : M + 4 ≤ n := by omega
      have m7 : (4 : Int) + (M : Int) ≤ (c : Int) := by omega
      have m8 : (4 : Int) + (M : Int) ≤ (n : Int) := by omega
      have m9 : (0 : Int) ≤ 4 + (M : Int) := by omega
      have m10 : (4 : Int) ≤ 4 + (M : Int) := by omega
      have m12 : IntKind.i64.wrap (b0.toNat : Int) = (b0.toNat : Int) := IntWalk.i64_in _ ⟨by omega, by omega⟩
      have m13 : 0 < n := by omega
      have m11 : ((4 : Int) + (M : Int)).toNat = 4 + M := by omega
      by_cases hcx : c = 4
      · obtain rfl : M = 0 := by omega
        obtain rfl : c = 4 := hcx
        have hn4 : n = 4 := by omega
        subst hn4
        clear m12 m5 m6 m7 m8 m9 m10 m11
        have m5 : IntKind.i64.wrap (4 : Int) = 4 := by decide
        have m14 : (4 : Int).toNat = 4 := by decide
        have m12 : IntKind.i64.wrap (b0.toNat : Int) = (b0.toNat : Int) := IntWalk.i64_in _ ⟨by omega, by omega⟩
        go_enter Try.func10, Try.ntmps10
        go_wp2
        go_quiet (fail)
        go_upto_region 8 with (fail)
        have eD : ((w.alloc (.cells #[.int .i64 0, .slice none 0 0] 25)).drewN nq).drew.cell? ⟨g, o, none⟩ = some (.int .u8 (b0.toNat : Int)) := e0
        have hgw : g < w.heap.size := hgl
        have hkeep : ∀ u v, ((((w.alloc (.cells #[.int .i64 0, .slice none 0 0] 25)).drewN (nq + 1)).setCell ⟨w.heap.size, 0, none⟩ u).setCell ⟨w.heap.size, 1, none⟩ v).cell? ⟨g, o, none⟩ = some (.int .u8 (b0.toNat : Int)) := by
          intro u v
          refine ((set2_only _ w.heap.size u v).cell_at (p := ⟨g, o, none⟩) ?_ ?_).trans e0
          · show g < _; have := HX.out.1.size; simp; omega
          · show ¬ g = _; omega
        go_region_held3 (fun w' => w'.cell? ⟨g, o, none⟩ = some (.int .u8 (b0.toNat : Int))) (first | exact eD | exact hkeep _ _ | go_keep) (first | fail)
        all_goals go_wp2
        all_goals
          have hX := rt_end (.int .i64 (b0.toNat : Int)) (.slice (some ⟨g, o, none⟩) 0 0) (below_only HX.out.1 HX.out.1.size (Only.drewN (nq + 1) (Only.refl (fun _ => False) _)) (fun _ _ h => h)) (HX.out.2.1.only (Only.drewN (nq + 1) (Only.refl (fun _ => False) _)) (fun h => h)) HX.out.2.2
          have d0 := hX.1.c0
          have d1 := hX.1.c1
          have ht : takeM (b0 :: b1 :: b2 :: b3 :: t) = (b0.toNat, t.take 0, t.drop 0, true, 0) := by rw [HTK.out, if_neg hM1, if_neg hM2]
          have hr4 : Rd _ S (some ⟨g, o + 4, none⟩) t := Rd.drop 4 hX.2.2
          refine bodyPost_ret (v := .tuple #[.agg #[.int .i64 (b0.toNat : Int), .slice (some ⟨g, o, none⟩) 0 0], .slice (some ⟨g, o, none⟩) 0 0, .int .i64 1]) (by simp [results, Try.results10, go_sem, d0, d1]) rfl ?_
          refine ⟨(some ⟨g, o, none⟩), 0, 0, (some ⟨g, o, none⟩), 0, 0, ?_, ?_, ?_, ?_, ?_, hX.2.1⟩
          · unfold whatM; rw [ht]; rfl
          · rw [ht]; show (t.take 0).length = _; rw [List.length_take]; omega
          · rw [ht]; show (t.drop 0).length = _; rw [List.length_drop]; omega
          · rw [ht]; exact Rd.nil _ _ _
          · rw [ht]; rw [show t.drop 0 = [] from List.eq_nil_of_length_eq_zero (by rw [List.length_drop]; omega)]; exact Rd.nil _ _ _
      · by_cases hcy : c = 4 + M
        · have hn4M : n = 4 + M := by omega
          have HN4 := Lib.hid hn4M
          clear hn4M
          subst hcy
          go_enter Try.func10, Try.ntmps10
          go_wp2
          go_quiet (fail)
          go_upto_region 8 with (fail)
          have eD : ((w.alloc (.cells #[.int .i64 0, .slice none 0 0] 25)).drewN nq).drew.cell? ⟨g, o, none⟩ = some (.int .u8 (b0.toNat : Int)) := e0
          have hgw : g < w.heap.size := hgl
          have hkeep : ∀ u v, ((((w.alloc (.cells #[.int .i64 0, .slice none 0 0] 25)).drewN (nq + 1)).setCell ⟨w.heap.size, 0, none⟩ u).setCell ⟨w.heap.size, 1, none⟩ v).cell? ⟨g, o, none⟩ = some (.int .u8 (b0.toNat : Int)) := by
            intro u v
            refine ((set2_only _ w.heap.size u v).cell_at (p := ⟨g, o, none⟩) ?_ ?_).trans e0
            · show g < _; have := HX.out.1.size; simp; omega
            · show ¬ g = _; omega
          go_region_held3 (fun w' => w'.cell? ⟨g, o, none⟩ = some (.int .u8 (b0.toNat : Int))) (first | exact eD | exact hkeep _ _ | go_keep) (first | fail)
          all_goals go_wp2
          all_goals
            have hX := rt_end (.int .i64 (b0.toNat : Int)) (.slice (some ⟨g, o + 4, none⟩) M M) (below_only HX.out.1 HX.out.1.size (Only.drewN (nq + 1) (Only.refl (fun _ => False) _)) (fun _ _ h => h)) (HX.out.2.1.only (Only.drewN (nq + 1) (Only.refl (fun _ => False) _)) (fun h => h)) HX.out.2.2
            have d0 := hX.1.c0
            have d1 := hX.1.c1
            have ht : takeM (b0 :: b1 :: b2 :: b3 :: t) = (b0.toNat, t.take M, t.drop M, true, 0) := by rw [HTK.out, if_neg hM1, if_neg hM2]
            have hr4 : Rd _ S (some ⟨g, o + 4, none⟩) t := Rd.drop 4 hX.2.2
            refine bodyPost_ret (v := .tuple #[.agg #[.int .i64 (b0.toNat : Int), .slice (some ⟨g, o + 4, none⟩) M M], .slice (some ⟨g, o, none⟩) 0 0, .int .i64 1]) (by simp [results, Try.results10, go_sem, d0, d1]) rfl ?_
            refine ⟨(some ⟨g, o + 4, none⟩), M, M, (some ⟨g, o, none⟩), 0, 0, ?_, ?_, ?_, ?_, ?_, hX.2.1⟩
            · unfold whatM; rw [ht]; rfl
            · rw [ht]; show (t.take M).length = _; rw [List.length_take]; have := HN4.out; omega
            · rw [ht]; show (t.drop M).length = _; rw [List.length_drop]; have := HN4.out; omega
            · rw [ht]; exact hr4.take M
            · rw [ht]; rw [show t.drop M = [] from List.eq_nil_of_length_eq_zero (by rw [List.length_drop]; have := HN4.out; omega)]; exact Rd.nil _ _ _
        · go_enter Try.func10, Try.ntmps10
          go_wp2
          go_quiet (fail)
          go_upto_region 8 with (fail)
          have eD : ((w.alloc (.cells #[.int .i64 0, .slice none 0 0] 25)).drewN nq).drew.cell? ⟨g, o, none⟩ = some (.int .u8 (b0.toNat : Int)) := e0
          have hgw : g < w.heap.size := hgl
          have hkeep : ∀ u v, ((((w.alloc (.cells #[.int .i64 0, .slice none 0 0] 25)).drewN (nq + 1)).setCell ⟨w.heap.size, 0, none⟩ u).setCell ⟨w.heap.size, 1, none⟩ v).cell? ⟨g, o, none⟩ = some (.int .u8 (b0.toNat : Int)) := by
            intro u v
            refine ((set2_only _ w.heap.size u v).cell_at (p := ⟨g, o, none⟩) ?_ ?_).trans e0
            · show g < _; have := HX.out.1.size; simp; omega
            · show ¬ g = _; omega
          go_region_held3 (fun w' => w'.cell? ⟨g, o, none⟩ = some (.int .u8 (b0.toNat : Int))) (first | exact eD | exact hkeep _ _ | go_keep) (first | fail)
          all_goals go_wp2
          all_goals
            have hX := rt_end (.int .i64 (b0.toNat : Int)) (.slice (some ⟨g, o + 4, none⟩) M (c - 4)) (below_only HX.out.1 HX.out.1.size (Only.drewN (nq + 1) (Only.refl (fun _ => False) _)) (fun _ _ h => h)) (HX.out.2.1.only (Only.drewN (nq + 1) (Only.refl (fun _ => False) _)) (fun h => h)) HX.out.2.2
            have d0 := hX.1.c0
            have d1 := hX.1.c1
            have ht : takeM (b0 :: b1 :: b2 :: b3 :: t) = (b0.toNat, t.take M, t.drop M, true, 0) := by rw [HTK.out, if_neg hM1, if_neg hM2]
            have hr4 : Rd _ S (some ⟨g, o + 4, none⟩) t := Rd.drop 4 hX.2.2
            refine bodyPost_ret (v := .tuple #[.agg #[.int .i64 (b0.toNat : Int), .slice (some ⟨g, o + 4, none⟩) M (c - 4)], .slice (some ⟨g, o + (4 + M), none⟩) (n - (4 + M)) (c - (4 + M)), .int .i64 1]) (by simp [results, Try.results10, go_sem, d0, d1]) rfl ?_
            refine ⟨(some ⟨g, o + 4, none⟩), M, (c - 4), (some ⟨g, o + (4 + M), none⟩), (n - (4 + M)), (c - (4 + M)), ?_, ?_, ?_, ?_, ?_, hX.2.1⟩
            · unfold whatM; rw [ht]; rfl
            · rw [ht]; show (t.take M).length = _; rw [List.length_take]; omega
            · rw [ht]; show (t.drop M).length = _; rw [List.length_drop]; omega
            · rw [ht]; exact hr4.take M
            · rw [ht]; have := Rd.drop M hr4; rwa [show o + 4 + M = o + (4 + M) by omega] at this

theorem rmtake_c (S : Nat → Prop) (p : Option Addr) (n c : Nat) (b : List UInt8) (w : World) (hR : Rd w S p b) (hn : b.length = n) (hnc : n ≤ c) (hcm : c ≤ maxLen) :
    Calls Try.prog 10 #[.slice p n c] w (RTakeMR w S b) := by
  match b, hR, hn with
  | [], hR, hn => exact rmtake_short S p n c _ w hR hn (by simp at hn; omega)
  | [_], hR, hn => exact rmtake_short S p n c _ w hR hn (by simp at hn; omega)
  | [_, _], hR, hn => exact rmtake_short S p n c _ w hR hn (by simp at hn; omega)
  | [_, _, _], hR, hn => exact rmtake_short S p n c _ w hR hn (by simp at hn; omega)
  | b0 :: b1 :: b2 :: b3 :: t, hR, hn =>
    obtain ⟨g, o, rfl, _⟩ := hR.at (by simp)
    exact rmtake_long S g o n c b0 b1 b2 b3 t w hR hn hnc hcm
end Go.Proofs.Ytkgeecejgpekkaa
