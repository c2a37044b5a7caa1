/-
  The law's own puts tells true. No condition.
-/
import Derived.Test.YtkgeecejgpekkaaMsgA
import Derived.Test.YtkgeecejgpekkaaKeep
namespace Go.Proofs.Ytkgeecejgpekkaa
open Go.RowKit Go.Kx

set_option maxRecDepth 100000 in
set_option maxHeartbeats 4000000 in
theorem mputs_c (w : World) : Calls Try.prog 9 #[] w fun e w' => e = .returned (.bool true) ∧ Below w.heap.size w w' := by
  have hR0 : Rd (w.alloc (.cells #[.int .u8 1] 5)) (· = w.heap.size) (some ⟨w.heap.size, 0, none⟩) [1] := Rd.lit w [1]
  have hB0 : Below w.heap.size w (w.alloc (.cells #[.int .u8 1] 5)) := (Below.refl _ _).alloc (Nat.le_refl _) _
  have hmb : msgB 24 [1] = [24, 0, 0, 1, 1] := by decide
  have htk : takeM [24, 0, 0, 1, 1, 7] = (24, [1], [7], true, 0) := by decide
  have H0 := Lib.hid (And.intro hR0 hB0)
  have HT := Lib.hid htk
  have HM := Lib.hid hmb
  clear hR0 hB0 hmb htk
  go_enter Try.func9, Try.ntmps9
  go_upto_region 2 with (first
    | (go_at_call 28; refine (mput_update true _).mono ?_; rintro e w1 ⟨rfl, rfl⟩; simp only [if_true])
    | (go_at_call 6; refine (mput_yes 24 (· = w.heap.size) _ 1 1 [1] _ (by omega) (by omega) H0.out.1 (by intro h; cases h) rfl).mono ?_; rintro e w2 ⟨g, n, c, rfl, l2, z1, z2, y1, y2, o2, b2⟩))
  rw [HM.out] at l2 o2
  have hz0 : (w.alloc (.cells #[.int .u8 1] 5)).heap.size = w.heap.size + 1 := by simp
  have B2 : Below w.heap.size w w2 := H0.out.2.trans (b2.mono H0.out.2.size)
  have hR7 : Rd (w2.alloc (.cells #[.int .u8 7] 5)) (· = w2.heap.size) (some ⟨w2.heap.size, 0, none⟩) [7] := Rd.lit w2 [7]
  have o3 : Own (w2.alloc (.cells #[.int .u8 7] 5)) g (.slice (some ⟨g, 0, none⟩) n c) [24, 0, 0, 1, 1] := o2.only ((Only.refl (fun _ => False) w2).alloc _) (fun h => h)
  have B3 : Below w.heap.size w (w2.alloc (.cells #[.int .u8 7] 5)) := B2.alloc B2.size _
  have H3 := Lib.hid (And.intro hR7 (And.intro o3 B3))
  clear hR7 o3 B3 o2 b2 B2
  go_wp2_with (at_builtin; refine wpList_append_keep _ rfl (.tmp 14) (.tmp 15) 23 rfl Try.underlying23 Try.info5 g n c [24, 0, 0, 1, 1] rfl H3.out.2.1 l2 ⟨w2.heap.size, 0, none⟩ 1 1 [7] rfl rfl _ H3.out.1 (by omega) (by simp) ?_)
  intro g' n' c' w4 hn' k1 k2 k3 o4 hg' hO4 hR4
  have hz3 : (w2.alloc (.cells #[.int .u8 7] 5)).heap.size = w2.heap.size + 1 := by simp
  have B4 : Below w.heap.size w w4 := below_only H3.out.2.2 H3.out.2.2.size hO4 (by intro k hk e; omega)
  have H4 := Lib.hid (And.intro o4 (And.intro B4 hR4))
  have hn6 : n' = 6 := by rw [hn', ← l2]; rfl
  subst hn6
  clear o4 B4 hR4 hO4 hn'
  go_upto_region 3 with (go_at_call 8; refine (mtake_c (· = g') _ 6 c' [24, 0, 0, 1, 1, 7] _ H4.out.1.rd (by intro h; cases h) (by simp) rfl).mono ?_; rintro e w5 ⟨g1, p1, n1, c1, g2, p2, n2, c2, rfl, q1, q2, q3, q4, q5, q6, q7⟩; rw [HT.out] at q1 q2 q5 q6 ⊢)
  have hbx : Box2 (w5.alloc (.cells #[.int .i64 24, .slice p1 n1 c1] 29)) w5.heap.size 29 (.int .i64 24) (.slice p1 n1 c1) := Box2.new _ _ _ _
  have d0 := hbx.c0
  have d1 := hbx.c1
  have s1 := run_str (c := c) ((H4.out.2.2.below q7).below ((Below.refl _ w5).alloc (Nat.le_refl _) (.cells #[.int .i64 24, .slice p1 n1 c1] 29))) l2
  have e1 : n1 = 1 := q1.symm
  have e2 : n2 = 1 := q2.symm
  subst e1 e2
  have B6 := Lib.hid (H4.out.2.1.trans (q7.mono H4.out.2.1.size))
  clear q1 q2 q5 q6 q7 hbx
  go_wp2
  go_ret
  exact ⟨rfl, B6.out.alloc B6.out.size _⟩
end Go.Proofs.Ytkgeecejgpekkaa
