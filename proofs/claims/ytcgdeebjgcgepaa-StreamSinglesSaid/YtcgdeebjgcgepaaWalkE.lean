/-
  Take takes an empty record out of a row of just five bytes. Conditions: a Reader without an error.
-/
import Derived.Test.YtcgdeebjgcgepaaWalkD
namespace Go.Proofs.Ytcgdeebjgcgepaa
open Go.RowKit Go.Kx

theorem take_some_five (r g o : Nat) (a0 a1 a2 a3 a4 : UInt8) (w : World) (hr : Box2 w r 43 (.slice (some ⟨g, o, none⟩) 5 5) (.int .i64 0)) (hb : Rd w (· = g) (some ⟨g, o, none⟩) [a0, a1, a2, a3, a4]) (h : beganS [a0, a1, a2, a3, a4] = true) (hz : a3.toNat * 256 + a4.toNat = 0) :
    Calls Try.prog 6 #[rp r] w (TakeSome w r a0 [] []) := by
  have c0 := hr.c0
  have c1 := hr.c1
  have f1 := hr.fr 1
  have hs := hr.set1 (.int .i64 5)
  have hat : ∀ i (h : i < [a0, a1, a2, a3, a4].length), w.cell? ⟨g, o + i, none⟩ = some (.int .u8 ([a0, a1, a2, a3, a4][i].toNat : Int)) := by
    obtain ⟨g', o', he, _, _, hc⟩ := hb.at (by simp)
    cases he
    exact hc
  have d0 := hat 0 (by simp)
  have d3 := hat 3 (by simp)
  have d4 := hat 4 (by simp)
  clear hat
  simp at d0 d3 d4
  have b3 := a3.toNat_lt
  have b4 := a4.toNat_lt
  have hor : bits .or .i64 ((a3.toNat : Int) * 256) (a4.toNat : Int) = 0 := by rw [or_i64 _ _ (by omega) (by omega), hz]; rfl
  have hm : ¬ (mostS a0 : Int) < 0 := by omega
  have HZ := Lib.hid hz
  have HR := Lib.hid hor
  have hlm : [a0, a1, a2, a3, a4].length ≤ 140737488355328 := by simp
  clear hz hor
  have i5 : IntKind.i64.wrap (5 : Int) = 5 := by decide
  have i6 : IntKind.i64.wrap (a0.toNat : Int) = a0.toNat := IntWalk.i64_in _ ⟨by omega, by have := a0.toNat_lt; omega⟩
  go_enter Try.func6, Try.ntmps6
  go_wp2_with (go_at_call 12; refine (began_c r 5 _ _ 0 5 _ _ hr hb hlm rfl).mono ?_; rintro e w' ⟨rfl, rfl⟩)
  go_quiet (fail)
  rw [HR.out]
  go_wp2_with (go_at_call 13; refine (most_c a0 _).mono ?_; rintro e w' ⟨rfl, rfl⟩)
  go_region_held3 (fun w' => w'.cell? ⟨r, 0, none⟩ = some (.slice (some ⟨g, o, none⟩) 5 5) ∧ w'.cell? ⟨g, o, none⟩ = some (.int .u8 (a0.toNat : Int))) (first | go_keep | exact ⟨cell_later (undrewN (by assumption)) c0, cell_later (undrewN (by assumption)) d0⟩)
    (first | (go_at_call 14; refine (clone_c (· = g) _ _ _ [] _ (by exact Rd.nil _ _ _) (by simp) rfl).mono ?_; rintro e w1 ⟨g1, k1, rfl, hg1, hg1', hk1, hk1', ho1, hb1⟩))
  all_goals
    have hbx : Below w.heap.size w w1 := undrewN hb1
    have hg1w : w.heap.size ≤ g1 := hg1
    have e0 := hr.below hbx
    have e0c := e0.c0
    have e0f := e0.fr 0
    have hrg : r < w.heap.size := hr.lt
    have hsz := hbx.size
    have HB := Lib.hid hbx
    have HK1 := Lib.hid (And.intro hk1 hk1')
    have HO := Lib.hid ho1
    have HV := Lib.hid e0
    clear hbx hb1 hg1 ho1 e0 hb hr hs hk1 hk1'
    go_wp2_with fail
    all_goals
      refine (clone_c (· = g) _ _ _ [] _ (Rd.nil _ _ _) (by simp) rfl).mono ?_
      rintro e w2 ⟨g2, k2, rfl, hg2, hg2', hk2, hk2', ho2, hb2⟩
      have e2 := HV.out.below hb2
      have e2f := e2.fr 0
      have e2c := e2.c0
      have HV2 := Lib.hid e2
      have HB2 := Lib.hid hb2
      have HK2 := Lib.hid (And.intro hk2 hk2')
      have HO2 := Lib.hid ho2
      clear hb2 e2 ho2 hk2 hk2'
      go_wp2
      refine bodyPost_ret (v := .tuple #[.int .i64 (a0.toNat : Int), .slice (some ⟨g1, 0, none⟩) 0 k1, .bool true, .int .i64 0]) (by simp [results, Try.results6, go_sem]) rfl ?_
      have hO : Only (fun k => k = r) w1 (w2.setCell ⟨r, 0, none⟩ (.slice (some ⟨g2, 0, none⟩) 0 k2)) := (Only.of_below HB2.out).setCell ⟨r, 0, none⟩ _ (.inl rfl)
      have hO2 : Only (fun k => k = r) w2 (w2.setCell ⟨r, 0, none⟩ (.slice (some ⟨g2, 0, none⟩) 0 k2)) := (Only.refl _ _).setCell ⟨r, 0, none⟩ _ (.inl rfl)
      have hz := hO.size
      have hz2 := hO2.size
      unfold TakeSome
      exact ⟨g1, k1, g2, k2, rfl, HO.out.only hO (by omega), HO2.out.only hO2 (by omega), HK1.out.1, HK1.out.2, HK2.out.1, HK2.out.2, by omega, by omega, by omega, by omega, by omega, HV2.out.set0 _, (Only.of_below HB.out).trans hO (fun _ h => h) (fun _ _ h => h)⟩

end Go.Proofs.Ytcgdeebjgcgepaa
