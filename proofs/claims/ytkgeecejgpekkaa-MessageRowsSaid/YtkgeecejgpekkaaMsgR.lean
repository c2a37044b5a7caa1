/-
  The contracts of relayref09's vec and Put. Conditions: a body of at most 2048 bytes where something is put.
-/
import Derived.Test.YtkgeecejgpekkaaMsgPure
import Derived.Test.YtkgeecejgpekkaaRefD
import Derived.Test.YtkgeecejgpekkaaStepA
import Derived.Deep.RegionHeld3
namespace Go.Kx
open Go.RowKit
theorem Only.cell_at {q : Nat → Prop} {w w' : World} {p : Addr} (h : Only q w w') (hb : p.block < w.heap.size) (hq : ¬ q p.block) : w'.cell? p = w.cell? p := World.cell?_of_block (w := w) (w' := w') (h.block _ hb hq)
end Go.Kx
namespace Go.Proofs.Ytkgeecejgpekkaa
open Go.RowKit Go.Kx

theorem Own.lit1 (w : World) (b : UInt8) : Own (w.alloc (.cells #[.int .u8 (b.toNat : Int)] 5)) w.heap.size (.slice (some ⟨w.heap.size, 0, none⟩) 1 1) [b] :=
  ⟨⟨by simp, .inr ⟨w.heap.size, 1, #[.int .u8 (b.toNat : Int)], by simp, Nat.zero_le _, heap_alloc_new w _, by simp, by simp [maxLen], by simp, by simp⟩⟩, .inr rfl⟩

theorem vec3_c (S : Nat → Prop) (p : Option Addr) (n c : Nat) (l : List UInt8) (w : World) (hR : Rd w S p l) (hp : p = none → c = 0) (hl : l.length = n) (hn : n ≤ 2048) :
    Calls Try.prog 22 #[.slice p n c, .int .i64 3] w (PutYes w (be n 3 ++ l)) := by
  have HR := Lib.hid hR
  clear hR
  go_enter Try.func22, Try.ntmps22
  go_wp2_with (go_at_call 38; refine (rvec_c (fun _ => True) S none p 0 0 n c [] l 3 _ (Rd.nil _ _ _) (fun _ => rfl) rfl HR.out hp hl (by rw [hl]; show 0 + 4 + n ≤ _; omega) (by omega)).mono ?_; rintro e w' ⟨hy, _⟩; obtain ⟨g, n1, c', rfl, hn1, h1, h2, h3, h4, h5, h6⟩ := hy (by omega); clear hy)
  go_ret
  exact ⟨g, n1, c', rfl, by simpa using hn1, h1, h2, h3, h4, by simpa using h5, h6⟩

theorem rmput_no (k : Int) (p : Option Addr) (n c : Nat) (w : World) (h : ¬ ((0 ≤ k ∧ k < 256) ∧ n ≤ 2048)) :
    Calls Try.prog 7 #[.agg #[.int .i64 k, .slice p n c]] w (RPutNo w) := by
  have hB0 : Below w.heap.size w (w.alloc (.cells #[.int .i64 k, .slice p n c] 25)) := (Below.refl _ _).alloc (Nat.le_refl _) _
  have hbx : Box2 (w.alloc (.cells #[.int .i64 k, .slice p n c] 25)) w.heap.size 25 (.int .i64 k) (.slice p n c) := Box2.new _ _ _ _
  have c0 := hbx.c0
  have c1 := hbx.c1
  have HB := Lib.hid hB0
  clear hB0 hbx
  by_cases h1 : k < 0
  · go_enter Try.func7, Try.ntmps7
    go_wp2
    all_goals go_ret2
    all_goals exact ⟨rfl, HB.out⟩
  · by_cases h2 : 255 < k
    · go_enter Try.func7, Try.ntmps7
      go_wp2
      all_goals go_ret2
      all_goals exact ⟨rfl, HB.out⟩
    · have h3 : (2048 : Int) < (n : Int) := by omega
      go_enter Try.func7, Try.ntmps7
      go_wp2
      all_goals go_ret2
      all_goals exact ⟨rfl, HB.out⟩


/-- What stays while the message is put: its body, its two cells. -/
def Good (w : World) (S : Nat → Prop) (p : Option Addr) (l : List UInt8) (K : Int) (v : Value) (wx : World) : Prop :=
  Rd wx S p l ∧ wx.cell? ⟨w.heap.size, 0, none⟩ = some (.int .i64 K) ∧ wx.cell? ⟨w.heap.size, 1, none⟩ = some v ∧ w.heap.size < wx.heap.size ∧ Below w.heap.size w wx
theorem Good.below {w wx w' : World} {S : Nat → Prop} {p : Option Addr} {l : List UInt8} {K : Int} {v : Value} (h : Good w S p l K v wx) (hb : Below wx.heap.size wx w') : Good w S p l K v w' := by
  obtain ⟨h1, h2, h3, h4, h5⟩ := h
  exact ⟨h1.below hb, (hb.cell (p := ⟨w.heap.size, 0, none⟩) h4).trans h2, (hb.cell (p := ⟨w.heap.size, 1, none⟩) h4).trans h3, Nat.lt_of_lt_of_le h4 hb.size, h5.trans (hb.mono (Nat.le_of_lt h4))⟩
theorem Good.alloc {w wx : World} {S : Nat → Prop} {p : Option Addr} {l : List UInt8} {K : Int} {v : Value} (h : Good w S p l K v wx) (o : Obj) : Good w S p l K v (wx.alloc o) := h.below ((Below.refl _ _).alloc (Nat.le_refl _) o)
theorem Good.drew {w wx : World} {S : Nat → Prop} {p : Option Addr} {l : List UInt8} {K : Int} {v : Value} (h : Good w S p l K v wx) : Good w S p l K v wx.drew := h.below (Below.refl _ _).drew

set_option maxHeartbeats 4000000 in
theorem rmput_yes (K : Nat) (S : Nat → Prop) (p : Option Addr) (n c : Nat) (l : List UInt8) (w : World) (hK : K < 256) (hn : n ≤ 2048) (hR : Rd w S p l) (hp : p = none → c = 0) (hl : l.length = n) :
    Calls Try.prog 7 #[.agg #[.int .i64 (K : Int), .slice p n c]] w (RPutYes w (msgB K l)) := by
  have hB0 : Below w.heap.size w (w.alloc (.cells #[.int .i64 (K : Int), .slice p n c] 25)) := (Below.refl _ _).alloc (Nat.le_refl _) _
  have hbx : Box2 (w.alloc (.cells #[.int .i64 (K : Int), .slice p n c] 25)) w.heap.size 25 (.int .i64 (K : Int)) (.slice p n c) := Box2.new _ _ _ _
  have hz0 : (w.alloc (.cells #[.int .i64 (K : Int), .slice p n c] 25)).heap.size = w.heap.size + 1 := by simp
  have hw : IntKind.u8.wrap (K : Int) = (K : Int) := by rw [IntKind.wrap_u8]; omega
  have h1 : ¬ (K : Int) < 0 := by omega
  have h2 : ¬ (255 : Int) < (K : Int) := by omega
  have h3 : ¬ (2048 : Int) < (n : Int) := by omega
  have c0 := hbx.c0
  have c1 := hbx.c1
  go_enter Try.func7, Try.ntmps7
  go_upto_region 3 with (fail)
  generalize w.alloc (.cells #[.int .i64 (K : Int), .slice p n c] 25) = W0 at *
  have hG : Good w S p l (K : Int) (.slice p n c) W0 := ⟨hR.below hB0, c0, c1, by omega, hB0⟩
  have hKb : ((UInt8.ofNat K).toNat : Int) = (K : Int) := by rw [UInt8.toNat_ofNat']; omega
  have hOA : Own (W0.alloc (.cells #[.int .u8 (K : Int)] 5)).drew W0.heap.size (.slice (some ⟨W0.heap.size, 0, none⟩) 1 1) [UInt8.ofNat K] := by
    have := Own.lit1 W0 (UInt8.ofNat K)
    rw [hKb] at this
    exact this.only ((Only.refl (fun _ => False) _).drew) (fun h => h)
  have hGB := Lib.hid hG.drew
  have hGA := Lib.hid (hG.alloc (.cells #[.int .u8 (K : Int)] 5)).drew
  have OA := Lib.hid hOA
  have HKb := Lib.hid hKb
  have HG := Lib.hid hG
  clear hB0 hR hKb hG hOA hbx
  have hbound : 1 + (be n 3 ++ l).length ≤ 140737488355328 := by rw [List.length_append, be_length, hl]; omega
  have vk : ∀ wx, Good w S p l (K : Int) (.slice p n c) wx → Calls Try.prog 22 #[.slice p n c, .int .i64 3] wx (fun e w' => PutYes wx (be n 3 ++ l) e w' ∧ Good w S p l (K : Int) (.slice p n c) w') := by
    intro wx hg
    refine (vec3_c S p n c l wx hg.1 hp hl hn).mono ?_
    rintro e w' hy
    have hy2 := hy
    obtain ⟨_, _, _, _, _, _, _, _, _, _, hb⟩ := hy2
    exact ⟨hy, hg.below hb⟩
  have VK := Lib.hid vk
  clear vk
  go_region_held3 (fun w' => w'.cell? ⟨w.heap.size, 0, none⟩ = some (.int .i64 (K : Int)) ∧ w'.cell? ⟨w.heap.size, 1, none⟩ = some (.slice p n c)) (first | exact ⟨hGB.out.2.1, hGB.out.2.2.1⟩ | exact ⟨hGA.out.2.1, hGA.out.2.2.1⟩ | exact ⟨G1.2.1, G1.2.2.1⟩ | exact ⟨(G1.alloc _).2.1, (G1.alloc _).2.2.1⟩ | exact ⟨e0, e1⟩ | go_keep)
    (first
      | (go_at_call 22; refine (VK.out _ (by first | exact hGB.out | exact hGA.out)).mono ?_; rintro e w1 ⟨⟨g1, n1, c1', rfl, q1, q2, q3, q4, q5, q6, q7⟩, G1⟩)
      | (have oA := Own.keep OA.out q7; obtain ⟨g3, v3, w3, hr3, o3, hg3, hO3⟩ := run_append_bytes (P := Try.prog) w1 23 23 Try.underlying23 Try.info5 _ _ [UInt8.ofNat K] oA (· = g1) (some ⟨g1, 0, none⟩) n1 c1' (be n 3 ++ l) q1 (by intro h; cases h) q6.rd hbound; obtain ⟨c3, rfl, x1, x2, x3⟩ := o3.shape (by rintro rfl; have := o3.form; obtain ⟨_, _, hx, _⟩ := this; injection hx with _ hx _; simp at hx); have e0 := (hO3.cell_at (p := ⟨w.heap.size, 0, none⟩) (by show w.heap.size < _; exact G1.2.2.2.1) (by show ¬ w.heap.size = _; omega)).trans G1.2.1; have e1 := (hO3.cell_at (p := ⟨w.heap.size, 1, none⟩) (by show w.heap.size < _; exact G1.2.2.2.1) (by show ¬ w.heap.size = _; omega)).trans G1.2.2.1; have B3 : Below w.heap.size w w3 := below_only G1.2.2.2.2 (Nat.le_of_lt G1.2.2.2.1) hO3 (by intro k hk e; omega); refine step_builtin rfl (.tmp 21) (.tmp 24) 23 23 rfl _ _ (by simp [Act.eval]) (by simp [Act.eval]) hr3 ?_)
      | (have oB : Own (w1.alloc (.cells #[.int .u8 (K : Int)] 5)) w1.heap.size (.slice (some ⟨w1.heap.size, 0, none⟩) 1 1) [UInt8.ofNat K] := (by have := Own.lit1 w1 (UInt8.ofNat K); rw [HKb.out] at this; exact this); obtain ⟨g3, v3, w3, hr3, o3, hg3, hO3⟩ := run_append_bytes (P := Try.prog) (w1.alloc (.cells #[.int .u8 (K : Int)] 5)) 23 23 Try.underlying23 Try.info5 _ _ [UInt8.ofNat K] oB (· = g1) (some ⟨g1, 0, none⟩) n1 c1' (be n 3 ++ l) q1 (by intro h; cases h) (q6.rd.below ((Below.refl _ w1).alloc (Nat.le_refl _) _)) hbound; obtain ⟨c3, rfl, x1, x2, x3⟩ := o3.shape (by rintro rfl; have := o3.form; obtain ⟨_, _, hx, _⟩ := this; injection hx with _ hx _; simp at hx); have G2 := G1.alloc (.cells #[.int .u8 (K : Int)] 5); have hne : ¬ w.heap.size = w1.heap.size := (by have := G1.2.2.2.1; omega); have e0 := (hO3.cell_at (p := ⟨w.heap.size, 0, none⟩) (by show w.heap.size < _; exact G2.2.2.2.1) hne).trans G2.2.1; have e1 := (hO3.cell_at (p := ⟨w.heap.size, 1, none⟩) (by show w.heap.size < _; exact G2.2.2.2.1) hne).trans G2.2.2.1; have B3 : Below w.heap.size w w3 := below_only G2.2.2.2.2 (Nat.le_of_lt G2.2.2.2.1) hO3 (by intro k hk e; have := G1.2.2.2.1; omega); refine step_builtin rfl (.tmp 21) (.tmp 24) 23 23 rfl _ _ (by simp [Act.eval]) (by simp [Act.eval]) hr3 ?_))
  all_goals go_wp2
  all_goals go_ret2
  all_goals
    have hmb : msgB K l = [UInt8.ofNat K] ++ (be n 3 ++ l) := by unfold msgB; rw [hl]; simp [be]
    have hml : (msgB K l).length = ([UInt8.ofNat K] ++ (be n 3 ++ l)).length := by rw [hmb]
    have hgg : w.heap.size ≤ g3 := by
      have h1 := G1.2.2.2.1
      rcases hg3 with h | h
      · omega
      · first | omega | (rw [h]; simp; omega)
    rw [show RPutYes w (msgB K l) = RPutYes w ([UInt8.ofNat K] ++ (be n 3 ++ l)) by rw [hmb]]
    have hnl : ([UInt8.ofNat K] ++ (be n 3 ++ l)).length = n1 + 1 := by rw [List.length_append, q1]; simp; omega
    rw [hnl] at x1 o3
    exact ⟨g3, n1 + 1, c3, rfl, hnl, hgg, x3, x1, x2, o3, B3⟩
end Go.Proofs.Ytkgeecejgpekkaa
