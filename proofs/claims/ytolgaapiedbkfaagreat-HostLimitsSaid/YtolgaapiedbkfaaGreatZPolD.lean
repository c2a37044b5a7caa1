/-
  The contract of poly's Tag. Condition: as many bytes as some rounds of sixteen have, and one round at least.
-/
import Derived.Test.YtolgaapiedbkfaaGreatZg5
import Derived.Test.YtolgaapiedbkfaaGreatZChaC
import Derived.Test.YtolgaapiedbkfaaGreatZg3
namespace Go.Kx
open Go.Proofs.YtolgaapiedbkfaaGreat
def r0F (key : List UInt8) : UInt64 := litF (key.take 8) &&& 1152921487695413247
def r1F (key : List UInt8) : UInt64 := litF ((key.drop 8).take 8) &&& 1152921487695413244
/-- Behind so many rounds of sixteen bytes. -/
def hK (key m : List UInt8) : Nat → N3
  | 0 => ⟨0, 0, 0⟩
  | i + 1 => timesF (plusF (hK key m i) (partF ((m.drop (16 * i)).take 16))) (r0F key) (r1F key)
def sumN (key m : List UInt8) : N3 := plusF (redF (hK key m (m.length / 16))) ⟨litF ((key.drop 16).take 8), litF (key.drop 24), 0⟩
/-- A tag's bytes, behind so many of them. -/
def tagK (s : N3) : Nat → List UInt8
  | 0 => List.replicate 16 0
  | i + 1 => (tagK s i).set i (cut8 (shr64 (if i / 8 = 0 then s.a else s.b) (8 * (i % 8))))
def tagF (key m : List UInt8) : List UInt8 := tagK (sumN key m) 16
theorem tagK_len (s : N3) : ∀ i, (tagK s i).length = 16
  | 0 => by simp [tagK]
  | i + 1 => by rw [tagK, List.length_set]; exact tagK_len s i
end Go.Kx
namespace Go.Proofs.YtolgaapiedbkfaaGreat
open Go.RowKit Go.Kx
set_option linter.unusedVariables false
set_option linter.unusedSimpArgs false
set_option maxRecDepth 100000
attribute [local go_sem ↓] D_add D_mul D_xor D_or D_and D_not D_sub D_lss D_eql D_neq
attribute [local go_sem ↓] D_guard1 D_guard2
attribute [local go_sem ↓] exec_stD
attribute [local go_sem] D_cells D_one D_store st1_D st1_i
attribute [local go_sem ↓] D_shl D_shr

theorem below_dN (w : World) (m : Nat) : Below w.heap.size w (w.drewN m) := by
  have h := Below.refl w.heap.size w
  exact ⟨h.os, h.tape, h.output, h.size, h.block⟩
/-- The blocks of Tag. -/
structure TgI (w : World) (key : List UInt8) (W : World) : Prop where
  k : ArrB W w.heap.size 29 key
  o : ArrB W (w.heap.size + 1) 186 (List.replicate 16 0)
  b : Below w.heap.size w W
theorem TgI.below {w : World} {key : List UInt8} {W W' : World} (h : TgI w key W) (hb : Below W.heap.size W W') : TgI w key W' := ⟨h.k.below hb, h.o.below hb, h.b.trans (hb.mono h.b.size)⟩
theorem TgI.first (w : World) (key : List UInt8) : TgI w key ((w.alloc (.cells (key.map B8).toArray 29)).alloc (.cells ((List.replicate 16 (0 : UInt8)).map B8).toArray 186)) := by
  have a2 := ArrB.new (w.alloc (.cells (key.map B8).toArray 29)) 186 (List.replicate 16 0)
  rw [World.size_alloc] at a2
  exact ⟨(ArrB.new w _ key).below ((Below.refl _ _).alloc (Nat.le_refl _) _), a2, ((Below.refl _ w).alloc (Nat.le_refl _) _).alloc (by simp) _⟩
/-- At the head of the loop over the parts. -/
structure TgL (w W0 : World) (key m : List UInt8) (g o n c : Nat) (i : Nat) (wr : World) : Prop where
  t : TgI w key wr
  h : ArrN wr W0.heap.size (hK key m i)
  b : Below W0.heap.size W0 wr
theorem TgL.below {w W0 : World} {key m : List UInt8} {g o n c i : Nat} {W W' : World} (h : TgL w W0 key m g o n c i W) (hb : Below W.heap.size W W') : TgL w W0 key m g o n c i W' := ⟨h.t.below hb, h.h.below hb, h.b.trans (hb.mono h.b.size)⟩
def TgRel (w W0 : World) (key m : List UInt8) (g o n c : Nat) (v : Value) (wr : World) : Prop := ∃ (i : Nat) (p : Option Addr), v = .slice p (n - 16 * i) (c - 16 * i) ∧ (16 * i < n → p = some ⟨g, o + 16 * i, none⟩) ∧ 16 * i ≤ n ∧ TgL w W0 key m g o n c i wr
/-- At the head of the loop over the tag's bytes. -/
def ToRel (w6 : World) (Z : N3) (v : Value) (wr : World) : Prop := ∃ i : Nat, v = .int .i64 (i : Int) ∧ i ≤ 16 ∧ ArrB wr w6.heap.size 186 (tagK Z i) ∧ Below w6.heap.size w6 wr
def lenOf : Value → Nat
  | .slice _ n _ => n
  | _ => 0
theorem bldq {ρ : Operand → Value} {dst : Option Tmp} {x y z : Operand} {ty : TypeId} {pos : String} {after : Array Edge} {gd : Option (Nat × Bool)} {w : World} (a b c : UInt64) (hx : ρ x = D a) (hy : ρ y = D b) (hz : ρ z = D c) :
    (execOp ρ ⟨dst, .build 256 #[(0, x), (1, y), (2, z)], ty, pos, after, gd⟩).run Tryz.prog w = .ok (.value (.agg (n3V ⟨a, b, c⟩))) w := by
  have h := built_n3 a b c
  unfold execOp
  simp only [hx, hy, hz, List.map_toArray, List.map_cons, List.map_nil]
  rw [Sem.run_bind, run_build w 256 _ _ h]
  rfl
theorem Tryz.infoB16 : (Tryz.prog.info? 186).map (·.size) = some 16 := by kernel_rfl
set_option maxHeartbeats 20000000 in
theorem tag_c (key : List UInt8) (S : Nat → Prop) (g o c n : Nat) (m : List UInt8) (w : World) (hk : key.length = 32) (hR : Rd w S (some ⟨g, o, none⟩) m) (hn : m.length = n) (h16 : n % 16 = 0) (h0 : 0 < n) (hnc : n ≤ c) :
    Calls Tryz.prog 147 #[.agg (key.map B8).toArray, .slice (some ⟨g, o, none⟩) n c] w (BackR w (.agg ((tagF key m).map B8).toArray)) := by
  have hkz : ((key.map B8).toArray).size = 32 := by simp [hk]
  have HR := Lib.hid (And.intro hR hn)
  clear hR hn
  go_enter Tryz.func147, Tryz.ntmps147
  go_upto_region 1 with (fail)
  refine wp_world (TgI w key) (TgI.first w key) ?_
  intro W0 hI0
  have I0 := Lib.hid hI0
  clear hI0
  have hkr := ArrB.rd I0.out.k
  have rd : ∀ m, Rd (W0.drewN m) (fun k => k = w.heap.size) (some ⟨w.heap.size, 0, none⟩) key := fun m => hkr.below (below_dN W0 m)
  have l1 : (key.take 8).length = 8 := by rw [List.length_take, hk]; rfl
  have l2 : ((key.drop 8).take 8).length = 8 := by rw [List.length_take, List.length_drop, hk]; rfl
  have T := Lib.hid (And.intro (fun m => rd_take (rd m) 8) (And.intro (fun m => rd_take (rd_drop (k := 8) (rd m)) 8) (And.intro l1 l2)))
  clear l1 l2 rd hkr
  have n0 : ∀ wx, (binOp .and 35 (D (litF (key.take 8))) (.int .u64 1152921487695413247)).run Tryz.prog wx = .ok (D (r0F key)) wx := fun wx => D_and (P := Tryz.prog) (w := wx) (t := 35) (x := litF (key.take 8)) (y := 1152921487695413247)
  have n1 : ∀ wx, (binOp .and 35 (D (litF ((key.drop 8).take 8))) (.int .u64 1152921487695413244)).run Tryz.prog wx = .ok (D (r1F key)) wx := fun wx => D_and (P := Tryz.prog) (w := wx) (t := 35) (x := litF ((key.drop 8).take 8)) (y := 1152921487695413244)
  refine region_tailQ 7 (by kernel_rfl) (by kernel_rfl) ?_
  simp only [List.take_succ_cons, List.take_zero, List.drop_succ_cons, List.drop_zero]
  repeat (go_big_quiet_step (fail))
  refine wpQuiet_step (fun K hK => ?_)
  go_simp
  refine ⟨D (litF (key.take 8)), little_c (fun k => k = w.heap.size) w.heap.size 0 8 32 (key.take 8) _ (T.out.1 1) T.out.2.2.1 (by decide) (by decide), hK _ ?_⟩
  clear hK K
  repeat (go_big_quiet_step (fail))
  refine wpQuiet_step (fun K hK => ?_)
  go_simp
  refine ⟨D (litF ((key.drop 8).take 8)), little_c (fun k => k = w.heap.size) w.heap.size 8 8 24 ((key.drop 8).take 8) _ (T.out.2.1 1) T.out.2.2.2 (by decide) (by decide), hK _ ?_⟩
  clear hK K
  repeat (go_big_quiet_step (fail))
  refine wpQuiet_nil ?_
  go_upto_region 2 with (fail)
  go_upto_region 3 with (fail)
  have hI1 : TgI w key (W0.drew.alloc (.cells #[.int .u64 0, .int .u64 0, .int .u64 0] 256)) ∧ ArrN (W0.drew.alloc (.cells #[.int .u64 0, .int .u64 0, .int .u64 0] 256)) W0.heap.size ⟨0, 0, 0⟩ ∧ Below W0.heap.size W0 (W0.drew.alloc (.cells #[.int .u64 0, .int .u64 0, .int .u64 0] 256)) := by
    have hb : Below W0.heap.size W0 (W0.drew.alloc (.cells #[.int .u64 0, .int .u64 0, .int .u64 0] 256)) := ((Below.refl _ _).drew).alloc (Nat.le_refl _) _
    exact ⟨I0.out.below hb, ArrN.new W0.drew ⟨0, 0, 0⟩, hb⟩
  have hL0 : TgRel w W0 key m g o n c (.slice (some ⟨g, o, none⟩) n c) (W0.drew.alloc (.cells #[.int .u64 0, .int .u64 0, .int .u64 0] 256)) := ⟨0, _, rfl, fun _ => rfl, by omega, hI1.1, hI1.2.1, hI1.2.2⟩
  have HL0 := Lib.hid hL0
  clear hL0 hI1 n0 n1
  go_loopw [1, 8] (fun v1 v8 wr => TgRel w W0 key m g o n c v1 wr) (fun v1 v8 _ => lenOf v1)
  case atStart => exact HL0.out
  case round =>
    obtain ⟨i, p, rfl, hp, hi, hL⟩ := hrel
    by_cases hik : 16 * i < n
    · obtain rfl := hp hik
      clear hp
      have k1 : (0 : Int) < ((n - 16 * i : Nat) : Int) := by omega
      have k2 : (16 : Int) ≤ ((n - 16 * i : Nat) : Int) := by omega
      have k3 : ¬ (((n - 16 * i : Nat) : Int) < 16) := by omega
      have k4 : ¬ (((c - 16 * i : Nat) : Int) < 16) := by omega
      have k5 : (if (16 : Int) < ((n - 16 * i : Nat) : Int) then (16 : Int) else ((n - 16 * i : Nat) : Int)) = 16 := by split <;> omega
      have HL := Lib.hid hL
      clear hL
      go_upto_region 5 with (fail)
      refine wp_region_tail (S := fun wx => ArrN wx W0.heap.size (hK key m i)) (n := 9) (by kernel_rfl) (by decide) ?_
      try simp only [List.drop_succ_cons, List.drop_zero]
      obtain ⟨u0, hu0⟩ : ∃ u, u = wr.drew := ⟨_, rfl⟩
      have hL1 : TgL w W0 key m g o n c i u0 := by rw [hu0]; exact HL.out.below (Below.refl _ _).drew
      rw [← hu0]
      clear hu0
      refine wpAnyT_take (i := 0) (oi := _) (v := (.agg (n3V (hK key m i)))) rfl (by kernel_rfl) (fun _ _ _ h => h) (by kernel_rfl) (fun wq hq => run_ldN3 hq rfl) hL1.h ?_
      try simp only [Act.put, List.setIfInBounds_toArray, List.set_cons_zero, List.set_cons_succ]
      refine wpAnyT_take (i := 1) (oi := _) (v := (.slice (some ⟨g, o + 16 * i, none⟩) (n - 16 * i) (c - 16 * i))) rfl (by kernel_rfl) (fun _ _ _ h => h) (by kernel_rfl) (fun wq hq => rfl) hL1.h ?_
      try simp only [Act.put, List.setIfInBounds_toArray, List.set_cons_zero, List.set_cons_succ]
      refine wpAnyT_take (i := 2) (oi := _) (v := (.int .i64 16)) rfl (by kernel_rfl) (fun _ _ _ h => h) (by kernel_rfl) (fun wq hq => rfl) hL1.h ?_
      try simp only [Act.put, List.setIfInBounds_toArray, List.set_cons_zero, List.set_cons_succ]
      refine wpAnyT_take (i := 6) (oi := _) (v := (D (r0F key))) rfl (by kernel_rfl) (fun _ _ _ h => h) (by kernel_rfl) (fun wq hq => rfl) hL1.h ?_
      try simp only [Act.put, List.setIfInBounds_toArray, List.set_cons_zero, List.set_cons_succ]
      refine wpAnyT_take (i := 7) (oi := _) (v := (D (r1F key))) rfl (by kernel_rfl) (fun _ _ _ h => h) (by kernel_rfl) (fun wq hq => rfl) hL1.h ?_
      try simp only [Act.put, List.setIfInBounds_toArray, List.set_cons_zero, List.set_cons_succ]
      refine wpAnyT_take (i := 3) (oi := _) (v := (.slice (some ⟨g, o + 16 * i, none⟩) 16 (c - 16 * i))) rfl (by kernel_rfl) (fun _ _ _ h => h) (by kernel_rfl) (fun wq hq => by go_simp) hL1.h ?_
      try simp only [Act.put, List.setIfInBounds_toArray, List.set_cons_zero, List.set_cons_succ]
      have hm1 : ∀ {wx : World}, Below w.heap.size w wx → Rd wx S (some ⟨g, o + 16 * i, none⟩) ((m.drop (16 * i)).take 16) := fun hb => rd_take (rd_drop (HR.out.1.below hb)) 16
      have hl1 : ((m.drop (16 * i)).take 16).length = 16 := by rw [List.length_take, List.length_drop, HR.out.2]; omega
      refine wpAnyT_ready (rs := [4]) (by kernel_rfl) (by simp) ?_
      refine AllReadyT.cons rfl (by decide) (fun K hC => ?_) AllReadyT.nil
      go_simp
      go_wp2_with (go_at_call 165; refine (part_c S g (o + 16 * i) (c - 16 * i) ((m.drop (16 * i)).take 16) _ (hm1 hL1.t.b) hl1 (by omega)).mono ?_; rintro e u1 ⟨rfl, hb1⟩)
      have hL2 := hL1.below hb1
      refine hC.out _ _ hL2.h ?_
      clear hC K
      try simp only [Act.put, List.setIfInBounds_toArray, List.set_cons_zero, List.set_cons_succ]
      refine wpAnyT_ready (rs := [5]) (by kernel_rfl) (by simp) ?_
      refine AllReadyT.cons rfl (by decide) (fun K hC => ?_) AllReadyT.nil
      go_simp
      go_wp2_with (go_at_call 164; refine (plus_c (hK key m i) (partF ((m.drop (16 * i)).take 16)) _).mono ?_; rintro e u2 ⟨rfl, hb2⟩)
      have hL3 := hL2.below hb2
      refine hC.out _ _ hL3.h ?_
      clear hC K
      try simp only [Act.put, List.setIfInBounds_toArray, List.set_cons_zero, List.set_cons_succ]
      refine wpAnyT_ready (rs := [8]) (by kernel_rfl) (by simp) ?_
      refine AllReadyT.cons rfl (by decide) (fun K hC => ?_) AllReadyT.nil
      go_simp
      go_wp2_with (go_at_call 166; refine (times_c (plusF (hK key m i) (partF ((m.drop (16 * i)).take 16))) (r0F key) (r1F key) _).mono ?_; rintro e u3 ⟨rfl, hb3⟩)
      have hL4 := hL3.below hb3
      refine hC.out _ _ hL4.h ?_
      clear hC K
      try simp only [Act.put, List.setIfInBounds_toArray, List.set_cons_zero, List.set_cons_succ]
      refine wpAnyT_tail (by kernel_rfl) ?_
      go_wp2_with (refine st_n3 rfl (.tmp 7) (.tmp 32) rfl W0.heap.size (hK key m (i + 1)) rfl rfl _ hL4.h ?_; intro u4 hA4 hO4)
      have hlw := I0.out.b.size
      have hlk := I0.out.o.lt
      refine ⟨⟨i + 1, _, by rw [show n - 16 * (i + 1) = n - 16 * i - 16 by omega, show c - 16 * (i + 1) = c - 16 * i - 16 by omega], fun hlt => by rw [if_neg (by omega), show o + 16 * (i + 1) = o + 16 * i + 16 by omega], by omega, ⟨⟨hL4.t.k.only hO4 (by omega), hL4.t.o.only hO4 (by omega), below_only hL4.t.b hL4.t.b.size hO4 (fun k hk e => by omega)⟩, hA4, below_only hL4.b hL4.b.size hO4 (fun k hk e => by omega)⟩⟩, by simp [lenOf]; omega⟩
    · obtain rfl : n = 16 * i := by omega
      have k1 : ¬ ((0 : Int) < ((16 * i - 16 * i : Nat) : Int)) := by omega
      have hX : hK key m i = hK key m (m.length / 16) := by rw [HR.out.2, show 16 * i / 16 = i by omega]
      have hT := hL.t
      have hH := hL.h
      have hB := hL.b
      rw [hX] at hH
      clear hX hL hp hi hik
      go_upto_region 7 with (fail)
      generalize hHH : hK key m (m.length / 16) = H at *
      have HH := Lib.hid hHH
      clear hHH
      go_upto_region 8 with (first
        | (refine ld_n3 rfl (.tmp 7) rfl W0.heap.size rfl H hH ?_)
        | (go_at_call 167; refine (reduced_c H _).mono ?_; rintro e w3 ⟨rfl, hb3⟩)
        | (refine st_n3 rfl (.tmp 7) (.tmp 37) rfl W0.heap.size (redF H) rfl rfl H (hH.below hb3) ?_; intro w4 hA4 hO4))
      have hb4 : Below W0.heap.size W0 w4 := by
        have h := hB.trans (hb3.mono hB.size)
        exact below_only h h.size hO4 (fun k hk e => by omega)
      have hlw := I0.out.b.size
      have hlk := I0.out.o.lt
      have hT4 := I0.out.below hb4
      have HT4 := Lib.hid hT4
      clear hT4 hT hH hB hb3 hO4 HL0 T
      have hkr : ∀ {wx : World}, Below w4.heap.size w4 wx → Rd wx (fun k => k = w.heap.size) (some ⟨w.heap.size, 0, none⟩) key := fun hb => ArrB.rd (HT4.out.k.below hb)
      have l3 : ((key.drop 16).take 8).length = 8 := by rw [List.length_take, List.length_drop, hk]; rfl
      have l4 : (key.drop 24).length = 8 := by rw [List.length_drop, hk]
      refine wp_region_tail (S := fun wx => Below w4.heap.size w4 wx) (n := 8) (by kernel_rfl) (by decide) ?_
      try simp only [List.drop_succ_cons, List.drop_zero]
      obtain ⟨u0, hu0⟩ : ∃ u, u = w4.drew := ⟨_, rfl⟩
      have hS : Below w4.heap.size w4 u0 := by rw [hu0]; exact (Below.refl _ _).drew
      rw [← hu0]
      clear hu0
      try simp only [Act.put]
      refine wpAnyT_take (i := 0) (oi := _) (v := (.agg (n3V (redF H)))) rfl (by kernel_rfl) (fun _ _ _ h => h) (by kernel_rfl) (fun wq hq => run_ldN3 (hA4.below hq) rfl) hS ?_
      try simp only [Act.put, List.setIfInBounds_toArray, List.set_cons_zero, List.set_cons_succ]
      refine wpAnyT_take (i := 1) (oi := _) (v := (.slice (some ⟨w.heap.size, 16, none⟩) 8 16)) rfl (by kernel_rfl) (fun _ _ _ h => h) (by kernel_rfl) (fun wq hq => by go_simp) hS ?_
      try simp only [Act.put, List.setIfInBounds_toArray, List.set_cons_zero, List.set_cons_succ]
      refine wpAnyT_take (i := 3) (oi := _) (v := (.slice (some ⟨w.heap.size, 24, none⟩) 8 8)) rfl (by kernel_rfl) (fun _ _ _ h => h) (by kernel_rfl) (fun wq hq => by go_simp) hS ?_
      try simp only [Act.put, List.setIfInBounds_toArray, List.set_cons_zero, List.set_cons_succ]
      refine wpAnyT_ready (rs := [2, 7]) (by kernel_rfl) (by simp) ?_
      refine AllReadyT.cons rfl (by decide) (fun K hC => ?_) (AllReadyT.cons rfl (by decide) (fun K hC => ?_) AllReadyT.nil)
      · go_simp
        go_wp2_with (go_at_call 163; refine (little_c (fun k => k = w.heap.size) w.heap.size 16 8 16 ((key.drop 16).take 8) _ (rd_take (rd_drop (k := 16) (hkr hS)) 8) l3 (by decide) (by decide)).mono ?_; rintro e ux ⟨rfl, hw⟩; rw [hw]; clear hw ux)
        refine hC.out _ _ hS ?_
        clear hC K
        try simp only [Act.put, List.setIfInBounds_toArray, List.set_cons_zero, List.set_cons_succ]
        refine wpAnyT_ready (rs := [4, 7]) (by kernel_rfl) (by simp) ?_
        refine AllReadyT.cons rfl (by decide) (fun K hC => ?_) (AllReadyT.cons rfl (by decide) (fun K hC => ?_) AllReadyT.nil)
        · go_simp
          go_wp2_with (go_at_call 163; refine (little_c (fun k => k = w.heap.size) w.heap.size 24 8 8 (key.drop 24) _ (rd_drop (k := 24) (hkr hS)) l4 (by decide) (by decide)).mono ?_; rintro e ux ⟨rfl, hw⟩; rw [hw]; clear hw ux)
          refine hC.out _ _ hS ?_
          clear hC K
          try simp only [Act.put, List.setIfInBounds_toArray, List.set_cons_zero, List.set_cons_succ]
          refine wpAnyT_take (i := 5) (oi := _) (v := (.agg (n3V ⟨litF ((key.drop 16).take 8), litF (key.drop 24), 0⟩))) rfl (by kernel_rfl) (fun _ _ _ h => h) (by kernel_rfl) (fun wq hq => bldq _ _ _ rfl rfl rfl) hS ?_
          try simp only [Act.put, List.setIfInBounds_toArray, List.set_cons_zero, List.set_cons_succ]
          refine wpAnyT_ready (rs := [6, 7]) (by kernel_rfl) (by simp) ?_
          refine AllReadyT.cons rfl (by decide) (fun K hC => ?_) (AllReadyT.cons rfl (by decide) (fun K hC => ?_) AllReadyT.nil)
          · go_simp
            go_wp2_with (go_at_call 164; refine (plus_c (redF H) ⟨litF ((key.drop 16).take 8), litF (key.drop 24), 0⟩ _).mono ?_; rintro e u0p ⟨rfl, hb5⟩)
            have hS := hS.trans (hb5.mono hS.size)
            refine hC.out _ _ hS ?_
            clear hC K
            try simp only [Act.put, List.setIfInBounds_toArray, List.set_cons_zero, List.set_cons_succ]
            refine wpAnyT_ready (rs := [7]) (by kernel_rfl) (by simp) ?_
            refine AllReadyT.cons rfl (by decide) (fun K hC => ?_) AllReadyT.nil
            go_simp
            go_wp2
            refine hC.out _ _ (hS.alloc hS.size _) ?_
            clear hC K
            try simp only [Act.put, List.setIfInBounds_toArray, List.set_cons_zero, List.set_cons_succ]
            have hA9 := ArrN.new u0p ⟨0, 0, 0⟩
            have hge := hS.size
            have hS := hS.alloc hS.size (.cells #[.int .u64 0, .int .u64 0, .int .u64 0] 256)
            rw [zero_n3] at hA9
            generalize u0p.heap.size = B9 at *
            generalize hz : u0p.alloc (.cells #[.int .u64 0, .int .u64 0, .int .u64 0] 256) = u0pa at *
            clear hz
            refine wpAnyT_tail (by kernel_rfl) ?_
            obtain ⟨u, hu⟩ : ∃ u, u = u0pa := ⟨_, rfl⟩
            rw [← hu] at hS hA9 ⊢
            clear hu
            go_wp2_with (refine st_n3 rfl (.tmp 9) (.tmp 44) rfl B9 (plusF (redF H) ⟨litF ((key.drop 16).take 8), litF (key.drop 24), 0⟩) rfl rfl ⟨0, 0, 0⟩ hA9 ?_; intro w6 hA6 hO6)
            have hX2 : tagF key m = tagK (plusF (redF H) ⟨litF ((key.drop 16).take 8), litF (key.drop 24), 0⟩) 16 := by rw [← HH.out]; rfl
            have HX2 := Lib.hid hX2
            clear hX2
            generalize (plusF (redF H) ⟨litF ((key.drop 16).take 8), litF (key.drop 24), 0⟩) = Z at *
            have hb6 : Below w4.heap.size w4 w6 := below_only hS hS.size hO6 (fun k hk e => by omega)
            have hT6 := HT4.out.below hb6
            have hlt6 := hA6.lt
            have H6 := Lib.hid (And.intro hT6 hA6)
            clear hT6 hA6 hA9 hO6 hS hb6
            go_upto_region 11 with (fail)
            have cv := cvD8
            have h01 : ToRel w6 Z (.int .i64 0) (w6.alloc (.cells ((List.replicate 16 (0 : UInt8)).map B8).toArray 186)) := ⟨0, rfl, by omega, ArrB.new _ _ _, (Below.refl _ _).alloc (Nat.le_refl _) _⟩
            have H01 := Lib.hid h01
            clear h01
            go_loopw [11, 45, 59] (fun v11 v45 v59 wx => ToRel w6 Z v45 wx) (fun v11 v45 _ _ => (16 - intOf v45).toNat)
            case atStart => exact H01.out
            case round =>
              obtain ⟨j, rfl, hj, hA, hBj⟩ := hrel
              by_cases hj16 : j < 16
              · have hol := tagK_len Z j
                obtain ⟨X, hX⟩ : ∃ x, x = (if j / 8 = 0 then Z.a else Z.b) := ⟨_, rfl⟩
                have hst : tagK Z (j + 1) = (tagK Z j).set j (cut8 (shr64 X (8 * (j % 8)))) := by rw [hX]; rfl
                have HST := Lib.hid hst
                have hN := H6.out.2.below hBj
                have hcx : wr.cell? ⟨B9, j / 8, none⟩ = some (D X) := by
                  rw [hX]
                  by_cases h8 : j / 8 = 0
                  · rw [if_pos h8, h8]; exact hN.c0
                  · rw [if_neg h8, show j / 8 = 1 by omega]; exact hN.c1
                have hc2 := hA.c j (by rw [hol]; exact hj16)
                have f2 := hA.fr j
                obtain ⟨Y, hY⟩ : ∃ x, x = (tagK Z j)[j]'(by rw [hol]; exact hj16) := ⟨_, rfl⟩
                rw [← hY] at hc2
                have hsh := fun (w : World) => D_shr (P := Tryz.prog) (w := w) (t := 35) (x := X) .i64 (8 * ((j : Int) % 8)) (by omega)
                rw [show (8 * ((j : Int) % 8)).toNat = 8 * (j % 8) by omega] at hsh
                have hti : ((j : Int) / 8).toNat = j / 8 := by omega
                have hlI : (j : Int) < 16 := by omega
                have hi0 : (0 : Int) ≤ (j : Int) := by omega
                have hq3 : (j : Int) / 8 < 3 := by omega
                have hq0 : (0 : Int) ≤ (j : Int) / 8 := by omega
                have HB := Lib.hid (And.intro hA hBj)
                clear hst hX hY hol hN hA hBj
                go_wp2
                refine ⟨⟨j + 1, by simp, by omega, by rw [HST.out]; exact HB.out.1.set j _, HB.out.2.setCell (p := ⟨w6.heap.size, j, none⟩) (Nat.le_refl _) _⟩, by simp [intOf]; omega⟩
              · obtain rfl : j = 16 := by omega
                have hge : ¬ ((16 : Nat) : Int) < 16 := by omega
                have hol := tagK_len Z 16
                generalize hTK : tagK Z 16 = TK at *
                have HTK := Lib.hid hTK
                clear hTK
                have HO2 := Lib.hid (And.intro (H6.out.1.below hBj) (And.intro hol (And.intro hA hBj)))
                clear hA hBj hol
                go_wp2_with (first
                  | (refine ld_arrB rfl 186 (.tmp 10) rfl w6.heap.size rfl _ _ HO2.out.2.2.1 _ _ Tryz.underlying186 (by rw [HO2.out.2.1]; exact Tryz.infoB16) ?_)
                  | (refine st_arrB rfl 186 (.tmp 4) _ rfl (w.heap.size + 1) _ rfl rfl _ _ HO2.out.1.o (by rw [HO2.out.2.1]; exact Tryz.infoB16) (by rw [HO2.out.2.1]; simp) ?_; intro wz hA7 hO7))
                refine bodyPost_ret (v := .agg (TK.map B8).toArray) (results_cell_row (P := Tryz.prog) Tryz.results147 _ _ (w.heap.size + 1) _ _ _ _ rfl hA7 Tryz.underlying186 rfl (by rw [Tryz.infoB16]; simp [HO2.out.2.1])) rfl (And.intro ?_ ?_)
                · rw [HX2.out]
                · exact below_only HO2.out.1.b HO2.out.1.b.size hO7 (fun k hk e => by omega)
          · go_simp
            go_wp2
            refine hC.out _ _ (hS.alloc hS.size _) ?_
            clear hC K
            try simp only [Act.put, List.setIfInBounds_toArray, List.set_cons_zero, List.set_cons_succ]
            have hA9 := ArrN.new u0 ⟨0, 0, 0⟩
            have hge := hS.size
            have hS := hS.alloc hS.size (.cells #[.int .u64 0, .int .u64 0, .int .u64 0] 256)
            rw [zero_n3] at hA9
            generalize u0.heap.size = B9 at *
            generalize hz : u0.alloc (.cells #[.int .u64 0, .int .u64 0, .int .u64 0] 256) = u0a at *
            clear hz
            refine wpAnyT_ready (rs := [6]) (by kernel_rfl) (by simp) ?_
            refine AllReadyT.cons rfl (by decide) (fun K hC => ?_) AllReadyT.nil
            go_simp
            go_wp2_with (go_at_call 164; refine (plus_c (redF H) ⟨litF ((key.drop 16).take 8), litF (key.drop 24), 0⟩ _).mono ?_; rintro e u0ap ⟨rfl, hb5⟩)
            have hS := hS.trans (hb5.mono hS.size)
            have hA9 := hA9.below hb5
            refine hC.out _ _ hS ?_
            clear hC K
            try simp only [Act.put, List.setIfInBounds_toArray, List.set_cons_zero, List.set_cons_succ]
            refine wpAnyT_tail (by kernel_rfl) ?_
            obtain ⟨u, hu⟩ : ∃ u, u = u0ap := ⟨_, rfl⟩
            rw [← hu] at hS hA9 ⊢
            clear hu
            go_wp2_with (refine st_n3 rfl (.tmp 9) (.tmp 44) rfl B9 (plusF (redF H) ⟨litF ((key.drop 16).take 8), litF (key.drop 24), 0⟩) rfl rfl ⟨0, 0, 0⟩ hA9 ?_; intro w6 hA6 hO6)
            have hX2 : tagF key m = tagK (plusF (redF H) ⟨litF ((key.drop 16).take 8), litF (key.drop 24), 0⟩) 16 := by rw [← HH.out]; rfl
            have HX2 := Lib.hid hX2
            clear hX2
            generalize (plusF (redF H) ⟨litF ((key.drop 16).take 8), litF (key.drop 24), 0⟩) = Z at *
            have hb6 : Below w4.heap.size w4 w6 := below_only hS hS.size hO6 (fun k hk e => by omega)
            have hT6 := HT4.out.below hb6
            have hlt6 := hA6.lt
            have H6 := Lib.hid (And.intro hT6 hA6)
            clear hT6 hA6 hA9 hO6 hS hb6
            go_upto_region 11 with (fail)
            have cv := cvD8
            have h01 : ToRel w6 Z (.int .i64 0) (w6.alloc (.cells ((List.replicate 16 (0 : UInt8)).map B8).toArray 186)) := ⟨0, rfl, by omega, ArrB.new _ _ _, (Below.refl _ _).alloc (Nat.le_refl _) _⟩
            have H01 := Lib.hid h01
            clear h01
            go_loopw [11, 45, 59] (fun v11 v45 v59 wx => ToRel w6 Z v45 wx) (fun v11 v45 _ _ => (16 - intOf v45).toNat)
            case atStart => exact H01.out
            case round =>
              obtain ⟨j, rfl, hj, hA, hBj⟩ := hrel
              by_cases hj16 : j < 16
              · have hol := tagK_len Z j
                obtain ⟨X, hX⟩ : ∃ x, x = (if j / 8 = 0 then Z.a else Z.b) := ⟨_, rfl⟩
                have hst : tagK Z (j + 1) = (tagK Z j).set j (cut8 (shr64 X (8 * (j % 8)))) := by rw [hX]; rfl
                have HST := Lib.hid hst
                have hN := H6.out.2.below hBj
                have hcx : wr.cell? ⟨B9, j / 8, none⟩ = some (D X) := by
                  rw [hX]
                  by_cases h8 : j / 8 = 0
                  · rw [if_pos h8, h8]; exact hN.c0
                  · rw [if_neg h8, show j / 8 = 1 by omega]; exact hN.c1
                have hc2 := hA.c j (by rw [hol]; exact hj16)
                have f2 := hA.fr j
                obtain ⟨Y, hY⟩ : ∃ x, x = (tagK Z j)[j]'(by rw [hol]; exact hj16) := ⟨_, rfl⟩
                rw [← hY] at hc2
                have hsh := fun (w : World) => D_shr (P := Tryz.prog) (w := w) (t := 35) (x := X) .i64 (8 * ((j : Int) % 8)) (by omega)
                rw [show (8 * ((j : Int) % 8)).toNat = 8 * (j % 8) by omega] at hsh
                have hti : ((j : Int) / 8).toNat = j / 8 := by omega
                have hlI : (j : Int) < 16 := by omega
                have hi0 : (0 : Int) ≤ (j : Int) := by omega
                have hq3 : (j : Int) / 8 < 3 := by omega
                have hq0 : (0 : Int) ≤ (j : Int) / 8 := by omega
                have HB := Lib.hid (And.intro hA hBj)
                clear hst hX hY hol hN hA hBj
                go_wp2
                refine ⟨⟨j + 1, by simp, by omega, by rw [HST.out]; exact HB.out.1.set j _, HB.out.2.setCell (p := ⟨w6.heap.size, j, none⟩) (Nat.le_refl _) _⟩, by simp [intOf]; omega⟩
              · obtain rfl : j = 16 := by omega
                have hge : ¬ ((16 : Nat) : Int) < 16 := by omega
                have hol := tagK_len Z 16
                generalize hTK : tagK Z 16 = TK at *
                have HTK := Lib.hid hTK
                clear hTK
                have HO2 := Lib.hid (And.intro (H6.out.1.below hBj) (And.intro hol (And.intro hA hBj)))
                clear hA hBj hol
                go_wp2_with (first
                  | (refine ld_arrB rfl 186 (.tmp 10) rfl w6.heap.size rfl _ _ HO2.out.2.2.1 _ _ Tryz.underlying186 (by rw [HO2.out.2.1]; exact Tryz.infoB16) ?_)
                  | (refine st_arrB rfl 186 (.tmp 4) _ rfl (w.heap.size + 1) _ rfl rfl _ _ HO2.out.1.o (by rw [HO2.out.2.1]; exact Tryz.infoB16) (by rw [HO2.out.2.1]; simp) ?_; intro wz hA7 hO7))
                refine bodyPost_ret (v := .agg (TK.map B8).toArray) (results_cell_row (P := Tryz.prog) Tryz.results147 _ _ (w.heap.size + 1) _ _ _ _ rfl hA7 Tryz.underlying186 rfl (by rw [Tryz.infoB16]; simp [HO2.out.2.1])) rfl (And.intro ?_ ?_)
                · rw [HX2.out]
                · exact below_only HO2.out.1.b HO2.out.1.b.size hO7 (fun k hk e => by omega)
        · go_simp
          go_wp2
          refine hC.out _ _ (hS.alloc hS.size _) ?_
          clear hC K
          try simp only [Act.put, List.setIfInBounds_toArray, List.set_cons_zero, List.set_cons_succ]
          have hA9 := ArrN.new u0 ⟨0, 0, 0⟩
          have hge := hS.size
          have hS := hS.alloc hS.size (.cells #[.int .u64 0, .int .u64 0, .int .u64 0] 256)
          rw [zero_n3] at hA9
          generalize u0.heap.size = B9 at *
          generalize hz : u0.alloc (.cells #[.int .u64 0, .int .u64 0, .int .u64 0] 256) = u0a at *
          clear hz
          refine wpAnyT_ready (rs := [4]) (by kernel_rfl) (by simp) ?_
          refine AllReadyT.cons rfl (by decide) (fun K hC => ?_) AllReadyT.nil
          go_simp
          go_wp2_with (go_at_call 163; refine (little_c (fun k => k = w.heap.size) w.heap.size 24 8 8 (key.drop 24) _ (rd_drop (k := 24) (hkr hS)) l4 (by decide) (by decide)).mono ?_; rintro e ux ⟨rfl, hw⟩; rw [hw]; clear hw ux)
          refine hC.out _ _ hS ?_
          clear hC K
          try simp only [Act.put, List.setIfInBounds_toArray, List.set_cons_zero, List.set_cons_succ]
          refine wpAnyT_take (i := 5) (oi := _) (v := (.agg (n3V ⟨litF ((key.drop 16).take 8), litF (key.drop 24), 0⟩))) rfl (by kernel_rfl) (fun _ _ _ h => h) (by kernel_rfl) (fun wq hq => bldq _ _ _ rfl rfl rfl) hS ?_
          try simp only [Act.put, List.setIfInBounds_toArray, List.set_cons_zero, List.set_cons_succ]
          refine wpAnyT_ready (rs := [6]) (by kernel_rfl) (by simp) ?_
          refine AllReadyT.cons rfl (by decide) (fun K hC => ?_) AllReadyT.nil
          go_simp
          go_wp2_with (go_at_call 164; refine (plus_c (redF H) ⟨litF ((key.drop 16).take 8), litF (key.drop 24), 0⟩ _).mono ?_; rintro e u0ap ⟨rfl, hb5⟩)
          have hS := hS.trans (hb5.mono hS.size)
          have hA9 := hA9.below hb5
          refine hC.out _ _ hS ?_
          clear hC K
          try simp only [Act.put, List.setIfInBounds_toArray, List.set_cons_zero, List.set_cons_succ]
          refine wpAnyT_tail (by kernel_rfl) ?_
          obtain ⟨u, hu⟩ : ∃ u, u = u0ap := ⟨_, rfl⟩
          rw [← hu] at hS hA9 ⊢
          clear hu
          go_wp2_with (refine st_n3 rfl (.tmp 9) (.tmp 44) rfl B9 (plusF (redF H) ⟨litF ((key.drop 16).take 8), litF (key.drop 24), 0⟩) rfl rfl ⟨0, 0, 0⟩ hA9 ?_; intro w6 hA6 hO6)
          have hX2 : tagF key m = tagK (plusF (redF H) ⟨litF ((key.drop 16).take 8), litF (key.drop 24), 0⟩) 16 := by rw [← HH.out]; rfl
          have HX2 := Lib.hid hX2
          clear hX2
          generalize (plusF (redF H) ⟨litF ((key.drop 16).take 8), litF (key.drop 24), 0⟩) = Z at *
          have hb6 : Below w4.heap.size w4 w6 := below_only hS hS.size hO6 (fun k hk e => by omega)
          have hT6 := HT4.out.below hb6
          have hlt6 := hA6.lt
          have H6 := Lib.hid (And.intro hT6 hA6)
          clear hT6 hA6 hA9 hO6 hS hb6
          go_upto_region 11 with (fail)
          have cv := cvD8
          have h01 : ToRel w6 Z (.int .i64 0) (w6.alloc (.cells ((List.replicate 16 (0 : UInt8)).map B8).toArray 186)) := ⟨0, rfl, by omega, ArrB.new _ _ _, (Below.refl _ _).alloc (Nat.le_refl _) _⟩
          have H01 := Lib.hid h01
          clear h01
          go_loopw [11, 45, 59] (fun v11 v45 v59 wx => ToRel w6 Z v45 wx) (fun v11 v45 _ _ => (16 - intOf v45).toNat)
          case atStart => exact H01.out
          case round =>
            obtain ⟨j, rfl, hj, hA, hBj⟩ := hrel
            by_cases hj16 : j < 16
            · have hol := tagK_len Z j
              obtain ⟨X, hX⟩ : ∃ x, x = (if j / 8 = 0 then Z.a else Z.b) := ⟨_, rfl⟩
              have hst : tagK Z (j + 1) = (tagK Z j).set j (cut8 (shr64 X (8 * (j % 8)))) := by rw [hX]; rfl
              have HST := Lib.hid hst
              have hN := H6.out.2.below hBj
              have hcx : wr.cell? ⟨B9, j / 8, none⟩ = some (D X) := by
                rw [hX]
                by_cases h8 : j / 8 = 0
                · rw [if_pos h8, h8]; exact hN.c0
                · rw [if_neg h8, show j / 8 = 1 by omega]; exact hN.c1
              have hc2 := hA.c j (by rw [hol]; exact hj16)
              have f2 := hA.fr j
              obtain ⟨Y, hY⟩ : ∃ x, x = (tagK Z j)[j]'(by rw [hol]; exact hj16) := ⟨_, rfl⟩
              rw [← hY] at hc2
              have hsh := fun (w : World) => D_shr (P := Tryz.prog) (w := w) (t := 35) (x := X) .i64 (8 * ((j : Int) % 8)) (by omega)
              rw [show (8 * ((j : Int) % 8)).toNat = 8 * (j % 8) by omega] at hsh
              have hti : ((j : Int) / 8).toNat = j / 8 := by omega
              have hlI : (j : Int) < 16 := by omega
              have hi0 : (0 : Int) ≤ (j : Int) := by omega
              have hq3 : (j : Int) / 8 < 3 := by omega
              have hq0 : (0 : Int) ≤ (j : Int) / 8 := by omega
              have HB := Lib.hid (And.intro hA hBj)
              clear hst hX hY hol hN hA hBj
              go_wp2
              refine ⟨⟨j + 1, by simp, by omega, by rw [HST.out]; exact HB.out.1.set j _, HB.out.2.setCell (p := ⟨w6.heap.size, j, none⟩) (Nat.le_refl _) _⟩, by simp [intOf]; omega⟩
            · obtain rfl : j = 16 := by omega
              have hge : ¬ ((16 : Nat) : Int) < 16 := by omega
              have hol := tagK_len Z 16
              generalize hTK : tagK Z 16 = TK at *
              have HTK := Lib.hid hTK
              clear hTK
              have HO2 := Lib.hid (And.intro (H6.out.1.below hBj) (And.intro hol (And.intro hA hBj)))
              clear hA hBj hol
              go_wp2_with (first
                | (refine ld_arrB rfl 186 (.tmp 10) rfl w6.heap.size rfl _ _ HO2.out.2.2.1 _ _ Tryz.underlying186 (by rw [HO2.out.2.1]; exact Tryz.infoB16) ?_)
                | (refine st_arrB rfl 186 (.tmp 4) _ rfl (w.heap.size + 1) _ rfl rfl _ _ HO2.out.1.o (by rw [HO2.out.2.1]; exact Tryz.infoB16) (by rw [HO2.out.2.1]; simp) ?_; intro wz hA7 hO7))
              refine bodyPost_ret (v := .agg (TK.map B8).toArray) (results_cell_row (P := Tryz.prog) Tryz.results147 _ _ (w.heap.size + 1) _ _ _ _ rfl hA7 Tryz.underlying186 rfl (by rw [Tryz.infoB16]; simp [HO2.out.2.1])) rfl (And.intro ?_ ?_)
              · rw [HX2.out]
              · exact below_only HO2.out.1.b HO2.out.1.b.size hO7 (fun k hk e => by omega)
      · go_simp
        go_wp2
        refine hC.out _ _ (hS.alloc hS.size _) ?_
        clear hC K
        try simp only [Act.put, List.setIfInBounds_toArray, List.set_cons_zero, List.set_cons_succ]
        have hA9 := ArrN.new u0 ⟨0, 0, 0⟩
        have hge := hS.size
        have hS := hS.alloc hS.size (.cells #[.int .u64 0, .int .u64 0, .int .u64 0] 256)
        rw [zero_n3] at hA9
        generalize u0.heap.size = B9 at *
        generalize hz : u0.alloc (.cells #[.int .u64 0, .int .u64 0, .int .u64 0] 256) = u0a at *
        clear hz
        refine wpAnyT_ready (rs := [2]) (by kernel_rfl) (by simp) ?_
        refine AllReadyT.cons rfl (by decide) (fun K hC => ?_) AllReadyT.nil
        go_simp
        go_wp2_with (go_at_call 163; refine (little_c (fun k => k = w.heap.size) w.heap.size 16 8 16 ((key.drop 16).take 8) _ (rd_take (rd_drop (k := 16) (hkr hS)) 8) l3 (by decide) (by decide)).mono ?_; rintro e ux ⟨rfl, hw⟩; rw [hw]; clear hw ux)
        refine hC.out _ _ hS ?_
        clear hC K
        try simp only [Act.put, List.setIfInBounds_toArray, List.set_cons_zero, List.set_cons_succ]
        refine wpAnyT_ready (rs := [4]) (by kernel_rfl) (by simp) ?_
        refine AllReadyT.cons rfl (by decide) (fun K hC => ?_) AllReadyT.nil
        go_simp
        go_wp2_with (go_at_call 163; refine (little_c (fun k => k = w.heap.size) w.heap.size 24 8 8 (key.drop 24) _ (rd_drop (k := 24) (hkr hS)) l4 (by decide) (by decide)).mono ?_; rintro e ux ⟨rfl, hw⟩; rw [hw]; clear hw ux)
        refine hC.out _ _ hS ?_
        clear hC K
        try simp only [Act.put, List.setIfInBounds_toArray, List.set_cons_zero, List.set_cons_succ]
        refine wpAnyT_take (i := 5) (oi := _) (v := (.agg (n3V ⟨litF ((key.drop 16).take 8), litF (key.drop 24), 0⟩))) rfl (by kernel_rfl) (fun _ _ _ h => h) (by kernel_rfl) (fun wq hq => bldq _ _ _ rfl rfl rfl) hS ?_
        try simp only [Act.put, List.setIfInBounds_toArray, List.set_cons_zero, List.set_cons_succ]
        refine wpAnyT_ready (rs := [6]) (by kernel_rfl) (by simp) ?_
        refine AllReadyT.cons rfl (by decide) (fun K hC => ?_) AllReadyT.nil
        go_simp
        go_wp2_with (go_at_call 164; refine (plus_c (redF H) ⟨litF ((key.drop 16).take 8), litF (key.drop 24), 0⟩ _).mono ?_; rintro e u0ap ⟨rfl, hb5⟩)
        have hS := hS.trans (hb5.mono hS.size)
        have hA9 := hA9.below hb5
        refine hC.out _ _ hS ?_
        clear hC K
        try simp only [Act.put, List.setIfInBounds_toArray, List.set_cons_zero, List.set_cons_succ]
        refine wpAnyT_tail (by kernel_rfl) ?_
        obtain ⟨u, hu⟩ : ∃ u, u = u0ap := ⟨_, rfl⟩
        rw [← hu] at hS hA9 ⊢
        clear hu
        go_wp2_with (refine st_n3 rfl (.tmp 9) (.tmp 44) rfl B9 (plusF (redF H) ⟨litF ((key.drop 16).take 8), litF (key.drop 24), 0⟩) rfl rfl ⟨0, 0, 0⟩ hA9 ?_; intro w6 hA6 hO6)
        have hX2 : tagF key m = tagK (plusF (redF H) ⟨litF ((key.drop 16).take 8), litF (key.drop 24), 0⟩) 16 := by rw [← HH.out]; rfl
        have HX2 := Lib.hid hX2
        clear hX2
        generalize (plusF (redF H) ⟨litF ((key.drop 16).take 8), litF (key.drop 24), 0⟩) = Z at *
        have hb6 : Below w4.heap.size w4 w6 := below_only hS hS.size hO6 (fun k hk e => by omega)
        have hT6 := HT4.out.below hb6
        have hlt6 := hA6.lt
        have H6 := Lib.hid (And.intro hT6 hA6)
        clear hT6 hA6 hA9 hO6 hS hb6
        go_upto_region 11 with (fail)
        have cv := cvD8
        have h01 : ToRel w6 Z (.int .i64 0) (w6.alloc (.cells ((List.replicate 16 (0 : UInt8)).map B8).toArray 186)) := ⟨0, rfl, by omega, ArrB.new _ _ _, (Below.refl _ _).alloc (Nat.le_refl _) _⟩
        have H01 := Lib.hid h01
        clear h01
        go_loopw [11, 45, 59] (fun v11 v45 v59 wx => ToRel w6 Z v45 wx) (fun v11 v45 _ _ => (16 - intOf v45).toNat)
        case atStart => exact H01.out
        case round =>
          obtain ⟨j, rfl, hj, hA, hBj⟩ := hrel
          by_cases hj16 : j < 16
          · have hol := tagK_len Z j
            obtain ⟨X, hX⟩ : ∃ x, x = (if j / 8 = 0 then Z.a else Z.b) := ⟨_, rfl⟩
            have hst : tagK Z (j + 1) = (tagK Z j).set j (cut8 (shr64 X (8 * (j % 8)))) := by rw [hX]; rfl
            have HST := Lib.hid hst
            have hN := H6.out.2.below hBj
            have hcx : wr.cell? ⟨B9, j / 8, none⟩ = some (D X) := by
              rw [hX]
              by_cases h8 : j / 8 = 0
              · rw [if_pos h8, h8]; exact hN.c0
              · rw [if_neg h8, show j / 8 = 1 by omega]; exact hN.c1
            have hc2 := hA.c j (by rw [hol]; exact hj16)
            have f2 := hA.fr j
            obtain ⟨Y, hY⟩ : ∃ x, x = (tagK Z j)[j]'(by rw [hol]; exact hj16) := ⟨_, rfl⟩
            rw [← hY] at hc2
            have hsh := fun (w : World) => D_shr (P := Tryz.prog) (w := w) (t := 35) (x := X) .i64 (8 * ((j : Int) % 8)) (by omega)
            rw [show (8 * ((j : Int) % 8)).toNat = 8 * (j % 8) by omega] at hsh
            have hti : ((j : Int) / 8).toNat = j / 8 := by omega
            have hlI : (j : Int) < 16 := by omega
            have hi0 : (0 : Int) ≤ (j : Int) := by omega
            have hq3 : (j : Int) / 8 < 3 := by omega
            have hq0 : (0 : Int) ≤ (j : Int) / 8 := by omega
            have HB := Lib.hid (And.intro hA hBj)
            clear hst hX hY hol hN hA hBj
            go_wp2
            refine ⟨⟨j + 1, by simp, by omega, by rw [HST.out]; exact HB.out.1.set j _, HB.out.2.setCell (p := ⟨w6.heap.size, j, none⟩) (Nat.le_refl _) _⟩, by simp [intOf]; omega⟩
          · obtain rfl : j = 16 := by omega
            have hge : ¬ ((16 : Nat) : Int) < 16 := by omega
            have hol := tagK_len Z 16
            generalize hTK : tagK Z 16 = TK at *
            have HTK := Lib.hid hTK
            clear hTK
            have HO2 := Lib.hid (And.intro (H6.out.1.below hBj) (And.intro hol (And.intro hA hBj)))
            clear hA hBj hol
            go_wp2_with (first
              | (refine ld_arrB rfl 186 (.tmp 10) rfl w6.heap.size rfl _ _ HO2.out.2.2.1 _ _ Tryz.underlying186 (by rw [HO2.out.2.1]; exact Tryz.infoB16) ?_)
              | (refine st_arrB rfl 186 (.tmp 4) _ rfl (w.heap.size + 1) _ rfl rfl _ _ HO2.out.1.o (by rw [HO2.out.2.1]; exact Tryz.infoB16) (by rw [HO2.out.2.1]; simp) ?_; intro wz hA7 hO7))
            refine bodyPost_ret (v := .agg (TK.map B8).toArray) (results_cell_row (P := Tryz.prog) Tryz.results147 _ _ (w.heap.size + 1) _ _ _ _ rfl hA7 Tryz.underlying186 rfl (by rw [Tryz.infoB16]; simp [HO2.out.2.1])) rfl (And.intro ?_ ?_)
            · rw [HX2.out]
            · exact below_only HO2.out.1.b HO2.out.1.b.size hO7 (fun k hk e => by omega)
end Go.Proofs.YtolgaapiedbkfaaGreat
