/-
  Take tells that a record is too long. Conditions: a Reader without an error, five bytes or more, a length above the limit.
-/
import Derived.Test.YtcgdeebjgcgepaaWalkA
namespace Go.Proofs.Ytcgdeebjgcgepaa
open Go.RowKit Go.Kx

theorem take_long (r c g o n : Nat) (a0 a1 a2 a3 a4 : UInt8) (l : List UInt8) (w : World) (hr : Box2 w r 43 (.slice (some ⟨g, o, none⟩) n c) (.int .i64 0)) (hb : Rd w (· = g) (some ⟨g, o, none⟩) (a0 :: a1 :: a2 :: a3 :: a4 :: l)) (hl : (a0 :: a1 :: a2 :: a3 :: a4 :: l).length ≤ 140737488355328) (hnl : (a0 :: a1 :: a2 :: a3 :: a4 :: l).length = n) (h : beganS (a0 :: a1 :: a2 :: a3 :: a4 :: l) = true) (hm : mostS a0 < a3.toNat * 256 + a4.toNat) :
    Calls Try.prog 6 #[rp r] w (TakeErr w r (.slice (some ⟨g, o, none⟩) n c) 5) := by
  have c0 := hr.c0
  have c1 := hr.c1
  have f1 := hr.fr 1
  have hs := hr.set1 (.int .i64 5)
  have hat : ∀ i (h : i < (a0 :: a1 :: a2 :: a3 :: a4 :: l).length), w.cell? ⟨g, o + i, none⟩ = some (.int .u8 ((a0 :: a1 :: a2 :: a3 :: a4 :: l)[i].toNat : Int)) := by
    obtain ⟨g', o', he, _, _, hc⟩ := hb.at (by simp)
    cases he
    exact hc
  have d0 := hat 0 (by simp)
  have d3 := hat 3 (by simp)
  have d4 := hat 4 (by simp)
  clear hat
  simp at d0 d3 d4
  have h5 : 5 ≤ n := by rw [← hnl]; simp
  have b3 := a3.toNat_lt
  have b4 := a4.toNat_lt
  go_enter Try.func6, Try.ntmps6
  go_wp2_with (go_at_call 12; refine (began_c r c _ _ 0 n _ _ hr hb hl hnl).mono ?_; rintro e w' ⟨rfl, rfl⟩)
  go_quiet (fail)
  rw [or_i64 _ _ (by omega) (by omega)]
  obtain ⟨N, hN⟩ : ∃ N, N = a3.toNat * 256 + a4.toNat := ⟨_, rfl⟩
  rw [← hN] at hm ⊢
  have hN1 : N ≤ 65535 := by omega
  clear hN
  have d1 := (Box2.set1 (w := w.drewN nq) (r := r) hr (.int .i64 5)).c1
  go_wp2_with (go_at_call 13; refine (most_c a0 _).mono ?_; rintro e w' ⟨rfl, rfl⟩)
  go_quiet (fail)
  go_wp2
  refine bodyPost_ret (v := retE 5) (by simp [results, Try.results6, go_sem, retE]) rfl ⟨rfl, hs, ?_⟩
  exact Only.drewN _ (Only.setCell (Only.drewN _ (Only.refl (fun k => k = r) w)) ⟨r, 1, none⟩ _ (.inl rfl))
end Go.Proofs.Ytcgdeebjgcgepaa
