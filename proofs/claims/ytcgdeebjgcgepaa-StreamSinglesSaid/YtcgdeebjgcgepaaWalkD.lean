/-
  Take takes a record, where the row has room for more than five bytes. Conditions: a Reader without an error, a whole record.
-/
import Derived.Test.YtcgdeebjgcgepaaWalkA
namespace Go.Proofs.Ytcgdeebjgcgepaa
open Go.RowKit Go.Kx

def TakeSome (w : World) (r : Nat) (k : UInt8) (body rest : List UInt8) (e : Ending) (w' : World) : Prop :=
  ∃ g1 k1 g2 k2, e = .returned (.tuple #[.int .i64 (k.toNat : Int), .slice (some ⟨g1, 0, none⟩) body.length k1, .bool true, .int .i64 0]) ∧ Own w' g1 (.slice (some ⟨g1, 0, none⟩) body.length k1) body ∧ Own w' g2 (.slice (some ⟨g2, 0, none⟩) rest.length k2) rest ∧ body.length ≤ k1 ∧ k1 ≤ maxLen ∧ rest.length ≤ k2 ∧ k2 ≤ maxLen ∧ w.heap.size ≤ g1 ∧ g1 < w'.heap.size ∧ w.heap.size ≤ g2 ∧ g2 < w'.heap.size ∧ g1 ≠ g2 ∧
    Box2 w' r 43 (.slice (some ⟨g2, 0, none⟩) rest.length k2) (.int .i64 0) ∧ Only (· = r) w w'

theorem take_some_gen (r c g o n : Nat) (a0 a1 a2 a3 a4 : UInt8) (l : List UInt8) (w : World) (hr : Box2 w r 43 (.slice (some ⟨g, o, none⟩) n c) (.int .i64 0)) (hb : Rd w (· = g) (some ⟨g, o, none⟩) (a0 :: a1 :: a2 :: a3 :: a4 :: l)) (hl : (a0 :: a1 :: a2 :: a3 :: a4 :: l).length ≤ 140737488355328) (hnl : (a0 :: a1 :: a2 :: a3 :: a4 :: l).length = n) (h : beganS (a0 :: a1 :: a2 :: a3 :: a4 :: l) = true) (hc5 : ¬ c = 5) (hnc : n ≤ c) (hm : a3.toNat * 256 + a4.toNat ≤ mostS a0) (hp : 5 + (a3.toNat * 256 + a4.toNat) ≤ n) :
    Calls Try.prog 6 #[rp r] w (TakeSome w r a0 (l.take (a3.toNat * 256 + a4.toNat)) (l.drop (a3.toNat * 256 + a4.toNat))) := by
  have c0 := hr.c0
  have c1 := hr.c1
  have f1 := hr.fr 1
  have hs := hr.set1 (.int .i64 5)
  have hat : ∀ i (h : i < (a0 :: a1 :: a2 :: a3 :: a4 :: l).length), w.cell? ⟨g, o + i, none⟩ = some (.int .u8 ((a0 :: a1 :: a2 :: a3 :: a4 :: l)[i].toNat : Int)) := by
    obtain ⟨g', o', he, _, _, hc⟩ := hb.at (by simp)
    cases he
    exact hc
  have d0 := hat 0 (by simp)
  have d3 := hat 3 (by simp)
  have d4 := hat 4 (by simp)
  clear hat
  simp at d0 d3 d4
  have h5 : 5 ≤ n := by rw [← hnl]; simp
  have b3 := a3.toNat_lt
  have b4 := a4.toNat_lt
  go_enter Try.func6, Try.ntmps6
  go_wp2_with (go_at_call 12; refine (began_c r c _ _ 0 n _ _ hr hb hl hnl).mono ?_; rintro e w' ⟨rfl, rfl⟩)
  go_quiet (fail)
  rw [or_i64 _ _ (by omega) (by omega)]
  obtain ⟨N, hN⟩ : ∃ N, N = a3.toNat * 256 + a4.toNat := ⟨_, rfl⟩
  rw [← hN] at hm hp ⊢
  have HN := Lib.hid hN
  have hN1 : N ≤ 65535 := by omega
  clear hN
  go_wp2_with (go_at_call 13; refine (most_c a0 _).mono ?_; rintro e w' ⟨rfl, rfl⟩)
  have hR : Rd w (· = g) (some ⟨g, o + 5, none⟩) (l.take N) := (Rd.drop 5 hb).take N
  have hlN : (l.take N).length = N := by
    have : l.length + 5 = n := by rw [← hnl]; simp
    rw [List.length_take]; omega
  have i0' : 0 < n := by omega
  have i0 : (0 : Int) < (n : Int) := by omega
  have i1 : (5 : Int) + (N : Int) ≤ (c : Int) := by omega
  have i2 : (0 : Int) ≤ 5 + (N : Int) := by omega
  have i3 : (5 : Int) ≤ 5 + (N : Int) := by omega
  have i4 : IntKind.i64.wrap (5 + (N : Int)) = 5 + (N : Int) := IntWalk.i64_in _ ⟨by omega, by omega⟩
  have i5 : ((5 : Int) + (N : Int)).toNat = 5 + N := by omega
  go_region_held3 (fun w' => w'.cell? ⟨r, 0, none⟩ = some (.slice (some ⟨g, o, none⟩) n c) ∧ w'.cell? ⟨g, o, none⟩ = some (.int .u8 (a0.toNat : Int))) (first | go_keep | exact ⟨cell_later (undrewN (by assumption)) c0, cell_later (undrewN (by assumption)) d0⟩)
    (first | (go_at_call 14; refine (clone_c (· = g) _ _ _ (l.take N) _ (by exact hR) (by omega) hlN).mono ?_; rintro e w1 ⟨g1, k1, rfl, hg1, hg1', hk1, hk1', ho1, hb1⟩))
  all_goals
    have hbx : Below w.heap.size w w1 := undrewN hb1
    have hg1w : w.heap.size ≤ g1 := hg1
    have e0 := hr.below hbx
    have e0c := e0.c0
    have e0f := e0.fr 0
    have hR2 : Rd w1 (· = g) (some ⟨g, o + (5 + N), none⟩) (l.drop N) := by
      have := (Rd.drop (5 + N) hb).below hbx
      rwa [show (a0 :: a1 :: a2 :: a3 :: a4 :: l).drop (5 + N) = l.drop N by rw [show 5 + N = N + 5 by omega]; rfl] at this
    have hlD : (l.drop N).length = n - (5 + N) := by rw [List.length_drop, ← hnl]; simp; omega
    have hl2 : (l.drop N).length ≤ 140737488355328 := by rw [List.length_drop]; simp at hl; omega
    have hrg : r < w.heap.size := hr.lt
    have hsz := hbx.size
    have HB := Lib.hid hbx
    have HK1 := Lib.hid (And.intro hk1 hk1')
    have HO := Lib.hid ho1
    have HL := Lib.hid hlD
    have HV := Lib.hid e0
    clear hbx hb1 hg1 ho1 hlD e0 hR hb hr hs hk1 hk1' hc5
    go_wp2_with fail
    all_goals
      refine (clone_c (· = g) _ _ _ (l.drop N) _ (by first | exact hR2 | (rw [show l.drop N = [] by apply List.eq_nil_of_length_eq_zero; have := HL.out; omega]; exact Rd.nil _ _ _)) hl2 (by have := HL.out; omega)).mono ?_
      rintro e w2 ⟨g2, k2, rfl, hg2, hg2', hk2, hk2', ho2, hb2⟩
      have e2 := HV.out.below hb2
      have e2f := e2.fr 0
      have e2c := e2.c0
      have HV2 := Lib.hid e2
      have HB2 := Lib.hid hb2
      have HK2 := Lib.hid (And.intro hk2 hk2')
      have HO2 := Lib.hid ho2
      clear hb2 e2 ho2 hk2 hk2'
      go_wp2
      refine bodyPost_ret (v := .tuple #[.int .i64 (IntKind.i64.wrap (a0.toNat : Int)), .slice (some ⟨g1, 0, none⟩) N k1, .bool true, .int .i64 0]) (by simp [results, Try.results6, go_sem]) rfl ?_
      rw [IntWalk.i64_in _ ⟨by omega, by have := a0.toNat_lt; omega⟩, ← HN.out]
      have hO : Only (fun k => k = r) w1 (w2.setCell ⟨r, 0, none⟩ (.slice (some ⟨g2, 0, none⟩) (n - (5 + N)) k2)) := (Only.of_below HB2.out).setCell ⟨r, 0, none⟩ _ (.inl rfl)
      have hO2 : Only (fun k => k = r) w2 (w2.setCell ⟨r, 0, none⟩ (.slice (some ⟨g2, 0, none⟩) (n - (5 + N)) k2)) := (Only.refl _ _).setCell ⟨r, 0, none⟩ _ (.inl rfl)
      have hz := hO.size
      have hz2 := hO2.size
      unfold TakeSome
      refine ⟨g1, k1, g2, k2, ?_⟩
      rw [hlN, HL.out]
      exact ⟨rfl, HO.out.only hO (by omega), HO2.out.only hO2 (by omega), HK1.out.1, HK1.out.2, HK2.out.1, HK2.out.2, by omega, by omega, by omega, by omega, by omega, HV2.out.set0 _, (Only.of_below HB.out).trans hO (fun _ h => h) (fun _ _ h => h)⟩

end Go.Proofs.Ytcgdeebjgcgepaa
