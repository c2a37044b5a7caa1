/-
  The walk of SnapCuts: it returns true, and changes nothing that lay there. Conditions: those of the State that is handed over.
-/
import Derived.Test.YtfilngbedlkhjaaSnE
import Derived.Test.YtfilngbedlkhjaaSnK
namespace Go.Proofs.Ytfilngbedlkhjaa
open Go.RowKit Go.Kx
set_option linter.unusedVariables false
set_option linter.unusedSimpArgs false

theorem hop3 (n : Int) : ∃ K : Nat, wrap64 ((IntKind.u64.wrap n).tmod 3) = (K : Int) ∧ K < 3 := by
  have h0 : 0 ≤ IntKind.u64.wrap n := by rw [IntKind.wrap_u64]; omega
  rw [Int.tmod_eq_emod_of_nonneg h0]
  generalize IntKind.u64.wrap n = y at h0
  have h1 : 0 ≤ y % 3 ∧ y % 3 < 3 := ⟨Int.emod_nonneg _ (by omega), Int.emod_lt_of_pos _ (by omega)⟩
  generalize y % 3 = x at h1
  rw [IntWalk.wrap64_in x ⟨by omega, by omega⟩]
  exact ⟨x.toNat, by omega, by omega⟩
theorem hopN (n : Int) (m : Nat) (hm : 0 < m) (hb : m ≤ 1000000) : ∃ P : Nat, wrap64 ((IntKind.u64.wrap n).tmod (m : Int)) = (P : Int) ∧ P < m := by
  have h0 : 0 ≤ IntKind.u64.wrap n := by rw [IntKind.wrap_u64]; omega
  rw [Int.tmod_eq_emod_of_nonneg h0]
  generalize IntKind.u64.wrap n = y at h0
  have h1 : 0 ≤ y % (m : Int) ∧ y % (m : Int) < (m : Int) := ⟨Int.emod_nonneg _ (by omega), Int.emod_lt_of_pos _ (by omega)⟩
  generalize y % (m : Int) = x at h1
  rw [IntWalk.wrap64_in x ⟨by omega, by omega⟩]
  exact ⟨x.toNat, by omega, by omega⟩
theorem tput_y (s : St) (C : Array Value) (x : Int) (v : Nat) (hx : x = (v : Int)) (w : World) (h : IsSt w C s) (hs : okS s) (hv : 1 ≤ v ∧ v ≤ 3) : Calls Try.prog 11 #[.agg C, .int .i64 x] w (TPutYes w (snB s v)) := by
  subst hx
  exact tput_yes s C v w h hs hv
theorem run_buildZT (w : World) : (Instr.build 26 #[]).run Try.prog w = .ok (.agg zC) w := run_build w _ _ _ Try.builtZT
theorem zSt_is (w : World) : IsSt w zC zSt := ⟨_, _, _, zC_ok, Sl.nil _, Sl.nil _, Sl.nil _⟩
theorem snB_bd (s : St) (v : Nat) (hs : okS s) (hm : s.sm.length = 224) : 237 ≤ (snB s v).length ∧ (snB s v).length ≤ 25000 := by
  obtain ⟨-, -, -, -, -, -, a, b, c⟩ := hs
  rw [snB_len s v hm]
  split <;> split <;> omega

set_option maxHeartbeats 4000000 in
set_option maxRecDepth 100000 in
theorem cuts_no (s : St) (C : Array Value) (x y : Int) (w : World) (h : IsSt w C s) (hn : ¬ okS s) : Calls Try.prog 5 #[.agg C, .int .i64 x, .int .i64 y] w fun e w' => e = .returned (.bool true) ∧ Below w.heap.size w w' := by
  have hB : Below w.heap.size w (w.alloc (.cells C 26)) := (Below.refl _ _).alloc (Nat.le_refl _) _
  have HI := Lib.hid (And.intro (h.below hB) (And.intro (blk_range (heap_alloc_new w (.cells C 26))) (And.intro h.sz hB)))
  obtain ⟨K, hK, hK3⟩ := hop3 x
  have HN := Lib.hid hn
  clear h hB hn
  go_enter Try.func5, Try.ntmps5
  go_wp2_with (first
    | (refine wpList_load_mid rfl 26 (.tmp 3) rfl w.heap.size 0 rfl C.toList _ HI.out.2.1 Try.underlying26 rfl (by rw [Array.length_toList, HI.out.2.2.1]; exact Try.infoT) ?_; rw [Array.toArray_toList])
    | (go_at_call 11; refine (tput_no s C _ _ HI.out.1 (fun h => HN.out h.1)).mono ?_; rintro e w1 ⟨rfl, b1⟩)
    | (go_at_call 6; have hq := b2; refine (snaps_c _).mono ?_; rintro e w3 ⟨rfl, b3⟩)
    | (go_at_call 6; refine (snaps_c _).mono ?_; rintro e w2 ⟨rfl, b2⟩))
  go_ret
  have h1 := HI.out.2.2.2.trans (b1.mono HI.out.2.2.2.size)
  have h2 := h1.trans (b2.mono h1.size)
  exact ⟨rfl, h2.trans (b3.mono h2.size)⟩

set_option maxHeartbeats 4000000 in
set_option maxRecDepth 100000 in
theorem cuts_yes (s : St) (C : Array Value) (x y : Int) (w : World) (h : IsSt w C s) (hs : okS s) : Calls Try.prog 5 #[.agg C, .int .i64 x, .int .i64 y] w fun e w' => e = .returned (.bool true) ∧ Below w.heap.size w w' := by
  have hB : Below w.heap.size w (w.alloc (.cells C 26)) := (Below.refl _ _).alloc (Nat.le_refl _) _
  have HI := Lib.hid (And.intro (h.below hB) (And.intro (blk_range (heap_alloc_new w (.cells C 26))) (And.intro h.sz hB)))
  obtain ⟨K, hK, hK3⟩ := hop3 x
  obtain ⟨v, hv⟩ : ∃ v : Nat, v = K + 1 := ⟨_, rfl⟩
  have hb := snB_bd s v hs h.len
  obtain ⟨X, hX⟩ : ∃ X, X = snB s v := ⟨_, rfl⟩
  rw [← hX] at hb
  have HS := Lib.hid (And.intro hs (And.intro h.len (And.intro hv hX)))
  have hzs := run_zeroS
  have hzt := run_zeroT
  obtain ⟨n, hn⟩ : ∃ n, X.length = n := ⟨_, rfl⟩
  rw [hn] at hb
  have HN := Lib.hid hn
  obtain ⟨k, hk, hkn⟩ := hopN y n (by omega) (by omega)
  have HG := Lib.hid (fun ver sealed s' y' (hgo : Go1 (X.take k) ver s' sealed y') => show getE s' sealed y' = 2 by
    rw [hX] at hgo hn
    have := get_cut (s := s) (v := v) (k := k) hs h.len (by omega) (by omega) hgo
    rw [getE_bad _ _ _ (by rw [this]; decide), this])
  have hkc : (k : Int) ≤ (n : Int) := by omega
  clear h hB hs hv hX hn
  go_enter Try.func5, Try.ntmps5
  go_upto_region 4 with (first
    | (refine wpList_load_mid rfl 26 (.tmp 3) rfl w.heap.size 0 rfl C.toList _ HI.out.2.1 Try.underlying26 rfl (by rw [Array.length_toList, HI.out.2.2.1]; exact Try.infoT) ?_; rw [Array.toArray_toList])
    | (go_at_call 11; refine (tput_y s C _ v (by rw [HS.out.2.2.1]; omega) _ HI.out.1 HS.out.1 (by rw [HS.out.2.2.1]; omega)).mono ?_; rintro e w1 ⟨g, n1, c1, rfl, k1, k2, k3, k4, k5, k6, k7⟩; rw [← HS.out.2.2.2] at k1 k6; obtain rfl : n = n1 := HN.out.symm.trans k1; have HK := Lib.hid (And.intro k6 (HI.out.2.2.2.trans (k7.mono HI.out.2.2.2.size))); clear k6 k7 k1)
    | (go_at_call 6; refine (snaps_c _).mono ?_; rintro e w2 ⟨rfl, b2⟩))
  have hkc1 : (k : Int) ≤ (c1 : Int) := by omega
  have hxk : (X.take k).length = k := by rw [List.length_take, HN.out]; omega
  have HXK := Lib.hid hxk
  have HK2 := Lib.hid (And.intro (Own.keep HK.out.1 b2) (HK.out.2.trans (b2.mono HK.out.2.size)))
  clear hxk b2
  go_upto_region 6 with (first
    | (go_at_call 10; refine (get_n (· = g) _ _ _ (X.take k) 2 _ (HK2.out.1.rd.take k) (by intro h; cases h) (by rw [HXK.out]; omega) HXK.out (by decide) HG.out).mono ?_; rintro e w3 ⟨C2, rfl, h4, h5⟩; have HB := Lib.hid (And.intro (stored (t := 35) h4) (And.intro h4.sz (And.intro h4.one h5))); clear h4 h5)
    | (refine wpList_store_row rfl 35 (.tmp 9) (.tmp 42) rfl w3.heap.size C2 rfl rfl 35 zC (heap_alloc_new w3 _) (by rw [HB.out.2.1]; exact Try.infoS) (by rw [HB.out.2.1, zC_size]) HB.out.2.2.1 ?_)
    | (go_at_call 13; refine (up_no (· = g) _ _ _ (X.take k) 2 _ (((HK2.out.1.rd.below HB.out.2.2.2).below HB.out.1.2.2).take k) (by intro h; cases h) (by rw [HXK.out]; omega) HXK.out (by decide) HG.out).mono ?_; rintro e w4 ⟨rfl, b4⟩))
  have hr4 : w4.rangeAt w3.heap.size 0 C2.toList := fun j u hu => (b4.cell (p := ⟨w3.heap.size, 0 + j, none⟩) (World.block_lt_of_cell? _ _ (HB.out.1.1 j u hu))).trans (HB.out.1.1 j u hu)
  have B3 := HK2.out.2.trans (HB.out.2.2.2.mono HK2.out.2.size)
  have B3' := B3.trans (HB.out.1.2.2.mono B3.size)
  have H4 := Lib.hid (And.intro hr4 (And.intro (HB.out.1.2.1.below b4) (B3'.trans (b4.mono B3'.size))))
  clear hr4 B3 B3' b4
  go_wp2_with fail
  refine wp_load_mid 35 (.tmp 9) rfl w3.heap.size 0 rfl C2.toList _ H4.out.1 Try.underlying35 rfl (by rw [Array.length_toList, HB.out.2.1]; exact Try.infoS) ?_
  rw [Array.toArray_toList]
  rename_i kk hkk
  refine hkk _ _ ?_
  go_wp2_with (first
    | (go_at_call 15; refine (from_c zSt C2 _ H4.out.2.1).mono ?_; rintro e w5 ⟨rfl, b5⟩)
    | (go_at_call 14; refine (same_c zSt C2 zC _ (H4.out.2.1.below b5) (zSt_is _)).mono ?_; rintro e w6 ⟨rfl, b6⟩))
  go_ret
  have B5 := H4.out.2.2.trans (b5.mono H4.out.2.2.size)
  exact ⟨rfl, B5.trans (b6.mono B5.size)⟩
end Go.Proofs.Ytfilngbedlkhjaa
