/-
  The walk of SnapOlder: it returns true, and changes nothing that lay there. Conditions: those of the State that is handed over.
-/
import Derived.Test.YtfilngbedlkhjaaSnL
namespace Go.Proofs.Ytfilngbedlkhjaa
open Go.RowKit Go.Kx
set_option linter.unusedVariables false
set_option linter.unusedSimpArgs false

/-- The State's block lies still; of the blocks of b none is changed. -/
def OB (b : World) (r : Nat) (C : Array Value) (wx : World) : Prop := wx.heap[r]? = some (.cells C 26 (0, 0)) ∧ Below b.heap.size b wx
theorem OB.step {b wx w' : World} {r : Nat} {C : Array Value} (h : OB b r C wx) (hb : Below wx.heap.size wx w') : OB b r C w' :=
  ⟨(hb.block r (Array.getElem?_eq_some_iff.1 h.1).1).trans h.1, h.2.trans (hb.mono h.2.size)⟩
theorem Own.lit1 (w : World) (b : UInt8) : Own (w.alloc (.cells #[.int .u8 (b.toNat : Int)] 5)) w.heap.size (.slice (some ⟨w.heap.size, 0, none⟩) 1 1) [b] :=
  ⟨⟨by simp, .inr ⟨w.heap.size, 1, #[.int .u8 (b.toNat : Int)], by simp, Nat.zero_le _, heap_alloc_new w _, by simp, by simp [maxLen], by simp, by simp⟩⟩, .inr rfl⟩
/-- The bytes behind the first one. -/
theorem own_tail {w : World} {g n c : Nat} {b : UInt8} {l : List UInt8} (h : Own w g (.slice (some ⟨g, 0, none⟩) n c) (b :: l)) : Rd w (· = g) (some ⟨g, 1, none⟩) l := by
  have := Rd.drop 1 h.rd
  simpa using this

set_option maxHeartbeats 4000000 in
set_option maxRecDepth 100000 in
theorem older_no (s : St) (C : Array Value) (w : World) (h : IsSt w C s) (hn : ¬ okS s) : Calls Try.prog 3 #[.agg C] w fun e w' => e = .returned (.bool true) ∧ Below w.heap.size w w' := by
  have hB : Below w.heap.size w (w.alloc (.cells C 26)) := (Below.refl _ _).alloc (Nat.le_refl _) _
  have hd : decide (okS s) = false := decide_eq_false hn
  have hob : OB (w.alloc (.cells C 26)) w.heap.size C (w.alloc (.cells C 26)) := ⟨heap_alloc_new w _, Below.refl _ _⟩
  have HI := Lib.hid (And.intro (h.below hB) (And.intro hob (And.intro h.sz hB)))
  clear h hB hn hob
  go_enter Try.func3, Try.ntmps3
  go_wp2_with (go_at_call 6; refine (snaps_c _).mono ?_; rintro e w1 ⟨rfl, b1⟩; have O1 := HI.out.2.1.step b1)
  refine wp_load_mid 26 (.tmp 1) rfl w.heap.size 0 rfl C.toList _ (blk_range O1.1) Try.underlying26 rfl (by rw [Array.length_toList, HI.out.2.2.1]; exact Try.infoT) ?_
  rw [Array.toArray_toList]
  rename_i kk hkk
  refine hkk _ _ ?_
  clear hkk
  go_wp2_with (first
    | (go_at_call 7; refine (rright_s C s _ (HI.out.1.below O1.2)).mono ?_; rintro e w2 ⟨rfl, b2⟩)
    | (go_at_call 6; refine (snaps_c _).mono ?_; rintro e w3 ⟨rfl, b3⟩))
  go_ret
  have h1 := HI.out.2.2.2.trans (O1.2.mono HI.out.2.2.2.size)
  have h2 := h1.trans (b2.mono h1.size)
  exact ⟨rfl, h2.trans (b3.mono h2.size)⟩

set_option maxHeartbeats 4000000 in
set_option maxRecDepth 100000 in
theorem older_yes (s : St) (C : Array Value) (w : World) (h : IsSt w C s) (hs : okS s) : Calls Try.prog 3 #[.agg C] w fun e w' => e = .returned (.bool true) ∧ Below w.heap.size w w' := by
  have hB : Below w.heap.size w (w.alloc (.cells C 26)) := (Below.refl _ _).alloc (Nat.le_refl _) _
  have hd : decide (okS s) = true := decide_eq_true hs
  have hob : OB (w.alloc (.cells C 26)) w.heap.size C (w.alloc (.cells C 26)) := ⟨heap_alloc_new w _, Below.refl _ _⟩
  have HI := Lib.hid (And.intro (h.below hB) (And.intro hob (And.intro h.sz (And.intro hB (And.intro hs h.len)))))
  have HC := Lib.hid h
  obtain ⟨R1, hR1⟩ : ∃ R, R = bdB s := ⟨_, rfl⟩
  obtain ⟨R2, hR2⟩ : ∃ R, R = bdB s ++ usB s := ⟨_, rfl⟩
  obtain ⟨R3, hR3⟩ : ∃ R, R = bdB s ++ (usB s ++ alB s) := ⟨_, rfl⟩
  have hX1 : snB s 1 = 1 :: R1 := by rw [hR1]; unfold snB; simp [be]
  have hX2 : snB s 2 = 2 :: R2 := by rw [hR2]; unfold snB; simp [be]
  have hX3 : snB s 3 = 3 :: R3 := by rw [hR3]; unfold snB; simp [be]
  have hl1 := snB_bd s 1 hs h.len
  have hl2 := snB_len s 2 h.len
  have hl3 := snB_len s 3 h.len
  have hl0 := snB_len s 1 h.len
  simp only [Nat.reduceLeDiff, if_true, if_false, Nat.le_refl, Nat.add_zero] at hl0 hl2 hl3
  have HR := Lib.hid (And.intro hR1 (And.intro hR2 hR3))
  have HX := Lib.hid (And.intro hX1 (And.intro hX2 hX3))
  have HL := Lib.hid (And.intro hl0 (And.intro hl2 hl3))
  have hu : s.us.length ≤ 255 := hs.2.2.2.2.2.2.2.2
  clear h hB hs hob hR1 hR2 hR3 hX1 hX2 hX3 hl0 hl2 hl3
  go_enter Try.func3, Try.ntmps3
  go_wp2_with (go_at_call 6; refine (snaps_c _).mono ?_; rintro e w1 ⟨rfl, b1⟩; have O1 := HI.out.2.1.step b1)
  refine wp_load_mid 26 (.tmp 1) rfl w.heap.size 0 rfl C.toList _ (blk_range O1.1) Try.underlying26 rfl (by rw [Array.length_toList, HI.out.2.2.1]; exact Try.infoT) ?_
  rw [Array.toArray_toList]
  rename_i kk hkk
  refine hkk _ _ ?_
  clear hkk
  go_upto_region 4 with (first
    | (refine wpList_load_mid rfl 26 (.tmp 1) rfl w.heap.size 0 rfl C.toList _ (blk_range O2.1) Try.underlying26 rfl (by rw [Array.length_toList, HI.out.2.2.1]; exact Try.infoT) ?_; rw [Array.toArray_toList])
    | (go_at_call 7; refine (rright_s C s _ (HI.out.1.below O1.2)).mono ?_; rintro e w2 ⟨rfl, b2⟩; have O2 := O1.step b2)
    | (go_at_call 9; refine (to_c s C _ (HI.out.1.below O2.2)).mono ?_; rintro e w3 ⟨rfl, b3⟩; have O3 := O2.step b3)
    | (go_at_call 8; refine (sput_yes s C 1 _ (HI.out.1.below O3.2) HI.out.2.2.2.2.1 (by omega)).mono ?_; rintro e wA ⟨gA, nA, cA, rfl, kA, j1, j2, j3, j4, oA, bA⟩))
  have OA := O3.step bA
  have HA := Lib.hid (And.intro OA (And.intro (show OB wA w.heap.size C wA from ⟨OA.1, Below.refl _ _⟩) (And.intro oA kA)))
  clear O1 O2 O3 OA oA kA bA b1 b2 b3 j1 j2
  go_upto_region 5 with (first
    | (refine wpList_load_mid rfl 26 (.tmp 1) rfl w.heap.size 0 rfl C.toList _ (blk_range HA.out.1.1) Try.underlying26 rfl (by rw [Array.length_toList, HI.out.2.2.1]; exact Try.infoT) ?_; rw [Array.toArray_toList])
    | (go_at_call 9; refine (to_c s C _ (HI.out.1.below HA.out.1.2)).mono ?_; rintro e w3 ⟨rfl, b3⟩; have O3 := HA.out.1.step b3; have P3 := HA.out.2.1.step b3)
    | (go_at_call 8; refine (sput_yes s C 2 _ (HI.out.1.below O3.2) HI.out.2.2.2.2.1 (by omega)).mono ?_; rintro e wB ⟨gB, nB, cB, rfl, kB, i1, i2, i3, i4, oB, bB⟩))
  have OB0 := O3.step bB
  have PB0 := P3.step bB
  have HB := Lib.hid (And.intro OB0 (And.intro (show OB wB w.heap.size C wB from ⟨OB0.1, Below.refl _ _⟩) (And.intro oB (And.intro kB PB0.2))))
  clear O3 P3 OB0 PB0 oB kB bB b3 i1 i2
  go_upto_region 6 with (first
    | (refine wpList_load_mid rfl 26 (.tmp 1) rfl w.heap.size 0 rfl C.toList _ (blk_range HB.out.1.1) Try.underlying26 rfl (by rw [Array.length_toList, HI.out.2.2.1]; exact Try.infoT) ?_; rw [Array.toArray_toList])
    | (go_at_call 9; refine (to_c s C _ (HI.out.1.below HB.out.1.2)).mono ?_; rintro e w3 ⟨rfl, b3⟩; have O3 := HB.out.1.step b3; have P3 := HB.out.2.1.step b3)
    | (go_at_call 8; refine (sput_yes s C 3 _ (HI.out.1.below O3.2) HI.out.2.2.2.2.1 (by omega)).mono ?_; rintro e wC ⟨gC, nC', cC, rfl, kC, h1, h2, h3, h4, oC, bC⟩))
  have OC := O3.step bC
  have PC := P3.step bC
  obtain ⟨lg, pt, us, hC, -, -, ⟨p3, n3, c3, rfl, l3, -⟩⟩ := id HC.out
  obtain ⟨-, -, -, -, -, -, -, -, e8, -⟩ := blk_cells OC.1 hC
  have hnA : nA = 237 + s.lg.length + s.pt.length := by rw [← HA.out.2.2.2, HL.out.1]
  have hnB : nB = nA + 1 + n3 := by rw [← HB.out.2.2.2.1, HL.out.2.1, hnA, l3]; omega
  have hnC : nC' = nB + 2 := by rw [← kC, HL.out.2.2, hnB, hnA, l3]; omega
  have hr1 : R1.length + 1 = nA := by rw [← HA.out.2.2.2, HX.out.1]; rfl
  have hr2 : R2.length + 1 = nB := by rw [← HB.out.2.2.2.1, HX.out.2.1]; rfl
  have hr3 : R3.length + 1 = nC' := by rw [← kC, HX.out.2.2]; rfl
  have ht12 : R2.take (nA - 1) = R1 := by
    rw [show nA - 1 = R1.length by omega, HR.out.2.1, HR.out.1]
    exact List.take_left' rfl
  have ht23 : R3.take (nB - 1) = R2 := by
    rw [show nB - 1 = R2.length by omega, HR.out.2.2, HR.out.2.1, ← List.append_assoc]
    exact List.take_left' rfl
  have oA2 : Own wC gA (.slice (some ⟨gA, 0, none⟩) nA cA) (1 :: R1) := by rw [← HX.out.1]; exact Own.keep (Own.keep HA.out.2.2.1 HB.out.2.2.2.2) PC.2
  have oB2 : Own wC gB (.slice (some ⟨gB, 0, none⟩) nB cB) (2 :: R2) := by rw [← HX.out.2.1]; exact Own.keep HB.out.2.2.1 PC.2
  have oC2 : Own wC gC (.slice (some ⟨gC, 0, none⟩) nC' cC) (3 :: R3) := by rw [← HX.out.2.2]; exact oC
  have hnA2 : nA ≤ 25000 := by have := HA.out.2.2.2; omega
  have HSS := Lib.hid (fun (wx : World) (hb : Below wC.heap.size wC wx) => show (convert 22 9 (.slice (some ⟨gA, 1, none⟩) (nA - 1) (cA - 1))).run Try.prog wx = .ok (.string ⟨R1.toArray⟩) wx ∧ (convert 22 9 (.slice (some ⟨gB, 1, none⟩) (nA - 1) (cB - 1))).run Try.prog wx = .ok (.string ⟨R1.toArray⟩) wx ∧ (convert 22 9 (.slice (some ⟨gB, 1, none⟩) (nB - 1) (cB - 1))).run Try.prog wx = .ok (.string ⟨R2.toArray⟩) wx ∧ (convert 22 9 (.slice (some ⟨gC, 1, none⟩) (nB - 1) (cC - 1))).run Try.prog wx = .ok (.string ⟨R2.toArray⟩) wx ∧ wx.cell? ⟨w.heap.size, 232, none⟩ = some (.slice p3 n3 c3) from
    ⟨run_str ((own_tail oA2).below hb) (by omega), run_str (l := R1) (by have := ((own_tail oB2).take (nA - 1)).below hb; rwa [ht12] at this) (by omega), run_str ((own_tail oB2).below hb) (by omega), run_str (l := R2) (by have := ((own_tail oC2).take (nB - 1)).below hb; rwa [ht23] at this) (by omega), (hb.cell (p := ⟨w.heap.size, 232, none⟩) (Array.getElem?_eq_some_iff.1 OC.1).1).trans e8⟩)
  have HO := Lib.hid (And.intro (And.intro oA2 oC2) (And.intro OC (And.intro hr1 hr3)))
  have g1 : 237 ≤ nA := by omega
  have g2 : nA ≤ nB := by omega
  have g3 : nB ≤ nC' := by omega
  have g4 : nC' ≤ 26000 := by omega
  have x1 : IntKind.i64.wrap ((nA : Int) + 1) = (nA : Int) + 1 := IntWalk.i64_in _ ⟨by omega, by omega⟩
  have x2 : IntKind.i64.wrap ((nA : Int) + 1 + (n3 : Int)) = (nA : Int) + 1 + (n3 : Int) := IntWalk.i64_in _ ⟨by omega, by omega⟩
  have x3 : IntKind.i64.wrap ((nB : Int) + 2) = (nB : Int) + 2 := IntWalk.i64_in _ ⟨by omega, by omega⟩
  have y1 : ((nB : Int) != (nA : Int) + 1 + (n3 : Int)) = false := by rw [hnB]; simp
  have y2 : ((nC' : Int) != (nB : Int) + 2) = false := by rw [hnC]; simp
  have u1 : (1 : Int) ≤ (nA : Int) := by omega
  have u2 : (1 : Int) ≤ (nB : Int) := by omega
  have u3 : (nA : Int) ≤ (cB : Int) := by omega
  have u4 : (nB : Int) ≤ (cC : Int) := by omega
  have u5 : (nA : Int) ≤ (cA : Int) := by omega
  have u6 : (nB : Int) ≤ (cB : Int) := by omega
  have v1 : ¬ cA = 1 := by omega
  have v2 : ¬ cB = 1 := by omega
  have v3 : ¬ cC = 1 := by omega
  clear hnA hnB hnC hr1 hr2 hr3 ht12 ht23 oA2 oB2 oC2 e8 hC l3 kC oC bC OC PC O3 P3
  go_cut [96] (fun v96 wx => v96 = .bool false ∧ Below wC.heap.size wC wx)
  case first =>
    go_region_held3 (fun w' => (convert 22 9 (.slice (some ⟨gA, 1, none⟩) (nA - 1) (cA - 1))).run Try.prog w' = .ok (.string ⟨R1.toArray⟩) w' ∧ (convert 22 9 (.slice (some ⟨gB, 1, none⟩) (nA - 1) (cB - 1))).run Try.prog w' = .ok (.string ⟨R1.toArray⟩) w' ∧ (convert 22 9 (.slice (some ⟨gB, 1, none⟩) (nB - 1) (cB - 1))).run Try.prog w' = .ok (.string ⟨R2.toArray⟩) w' ∧ (convert 22 9 (.slice (some ⟨gC, 1, none⟩) (nB - 1) (cC - 1))).run Try.prog w' = .ok (.string ⟨R2.toArray⟩) w' ∧ w'.cell? ⟨w.heap.size, 232, none⟩ = some (.slice p3 n3 c3))
      (first | exact HSS.out _ (Below.refl _ _) | exact HSS.out _ ((Below.refl _ _).drew) | go_keep) (first | fail)
    all_goals go_wp2
    all_goals go_meet
    all_goals exact ⟨by simp, (Below.refl _ _).drew⟩
  case rest =>
    obtain ⟨rfl, hbc⟩ := hcut
    have hzs := run_zeroS
    have hr1 := HO.out.2.2.1
    have hr3 := HO.out.2.2.2
    have HB1 := Lib.hid hbc
    clear hbc y1 y2 x1 x2 x3
    have HG1 := Lib.hid (fun ver sealed s' y' (hgo : Go1 (1 :: R3) ver s' sealed y') => show getE s' sealed y' = 3 by
      rw [HR.out.2.2] at hgo
      have := get_left (s := s) HI.out.2.2.2.2.1 HI.out.2.2.2.2.2 (by simpa [be] using hgo)
      rw [getE_bad _ _ _ (by rw [this]; decide), this])
    have HG2 := Lib.hid (fun ver sealed s' y' (hgo : Go1 (3 :: R1) ver s' sealed y') => show getE s' sealed y' = 2 by
      rw [HR.out.1] at hgo
      have := get_short (s := s) HI.out.2.2.2.2.1 HI.out.2.2.2.2.2 (by simpa [be] using hgo)
      rw [getE_bad _ _ _ (by rw [this]; decide), this])
    have HG3 := Lib.hid (fun ver sealed s' y' (hgo : Go1 (4 :: R3) ver s' sealed y') => show getE s' sealed y' = 3 by
      have := get_four (L := R3) (by simpa [be] using hgo)
      rw [getE_bad _ _ _ (by rw [this]; decide), this])
    have hoD1 : Own (wc.alloc (.cells #[.int .u8 1] 5)) wc.heap.size (.slice (some ⟨wc.heap.size, 0, none⟩) 1 1) [1] := Own.lit1 wc 1
    have HD1 := Lib.hid (And.intro hoD1 (And.intro ((own_tail HO.out.1.2).below (HB1.out.alloc HB1.out.size (.cells #[.int .u8 1] 5))) (HB1.out.alloc HB1.out.size (.cells #[.int .u8 1] 5))))
    clear hoD1
    go_wp2_with (at_builtin; refine wpList_append_bytes _ rfl (.tmp 97) (.tmp 99) 22 rfl Try.underlying22 Try.info5 _ _ [1] rfl HD1.out.1 (· = gC) _ (nC' - 1) (cC - 1) R3 rfl (by omega) (by intro h; cases h) HD1.out.2.1 (by simp; omega) ?_)
    intro gD1 vD1 wD1 oD1 zD1 bD1 nD1
    obtain ⟨cD1, rfl, -, -, hgD1⟩ := oD1.shape nD1
    have BD1 : Below wC.heap.size wC wD1 := below_only HD1.out.2.2 HD1.out.2.2.size bD1 (by intro k hk e; have := HB1.out.size; omega)
    obtain ⟨mD1, hmD1⟩ : ∃ n, (1 :: R3).length = n := ⟨_, rfl⟩
    rw [hmD1] at oD1 ⊢
    have hmb1 : mD1 ≤ 30000 := by rw [← hmD1]; simp; omega
    have HY1 := Lib.hid (And.intro oD1 (And.intro hmD1 BD1))
    clear oD1 hmD1 BD1 nD1 bD1 zD1
    go_upto_region 10 with (first
      | (go_at_call 10; refine (get_n (· = gD1) _ mD1 cD1 (1 :: R3) 3 _ HY1.out.1.rd (by intro h; cases h) (by rw [HY1.out.2.1]; omega) HY1.out.2.1 (by decide) HG1.out).mono ?_; rintro e wE1 ⟨CE1, rfl, h4, h5⟩; have HE1 := Lib.hid (And.intro (stored (t := 35) h4) (And.intro h4.sz (And.intro h4.one h5))); clear h4 h5)
      | (refine wpList_store_row rfl 35 (.tmp 10) (.tmp 104) rfl wE1.heap.size CE1 rfl rfl 35 zC (heap_alloc_new wE1 _) (by rw [HE1.out.2.1]; exact Try.infoS) (by rw [HE1.out.2.1, zC_size]) HE1.out.2.2.1 ?_))
    have BF1 : Below wC.heap.size wC ((wE1.alloc (.cells zC 35)).setRow wE1.heap.size CE1) := (HY1.out.2.2.trans (HE1.out.2.2.2.mono HY1.out.2.2.size)).trans (HE1.out.1.2.2.mono (HY1.out.2.2.trans (HE1.out.2.2.2.mono HY1.out.2.2.size)).size)
    have HF1 := Lib.hid BF1
    clear BF1
    generalize (wE1.alloc (.cells zC 35)).setRow wE1.heap.size CE1 = wF1 at *
    have hoD2 : Own (wF1.alloc (.cells #[.int .u8 3] 5)) wF1.heap.size (.slice (some ⟨wF1.heap.size, 0, none⟩) 1 1) [3] := Own.lit1 wF1 3
    have HD2 := Lib.hid (And.intro hoD2 (And.intro ((own_tail HO.out.1.1).below (HF1.out.alloc HF1.out.size (.cells #[.int .u8 3] 5))) (HF1.out.alloc HF1.out.size (.cells #[.int .u8 3] 5))))
    clear hoD2
    go_wp2_with (at_builtin; refine wpList_append_bytes _ rfl (.tmp 108) (.tmp 110) 22 rfl Try.underlying22 Try.info5 _ _ [3] rfl HD2.out.1 (· = gA) _ (nA - 1) (cA - 1) R1 rfl (by omega) (by intro h; cases h) HD2.out.2.1 (by simp; omega) ?_)
    intro gD2 vD2 wD2 oD2 zD2 bD2 nD2
    obtain ⟨cD2, rfl, -, -, hgD2⟩ := oD2.shape nD2
    have BD2 : Below wC.heap.size wC wD2 := below_only HD2.out.2.2 HD2.out.2.2.size bD2 (by intro k hk e; have := HF1.out.size; omega)
    obtain ⟨mD2, hmD2⟩ : ∃ n, (3 :: R1).length = n := ⟨_, rfl⟩
    rw [hmD2] at oD2 ⊢
    have hmb2 : mD2 ≤ 30000 := by rw [← hmD2]; simp; omega
    have HY2 := Lib.hid (And.intro oD2 (And.intro hmD2 BD2))
    clear oD2 hmD2 BD2 nD2 bD2 zD2
    go_upto_region 11 with (first
      | (go_at_call 10; refine (get_n (· = gD2) _ mD2 cD2 (3 :: R1) 2 _ HY2.out.1.rd (by intro h; cases h) (by rw [HY2.out.2.1]; omega) HY2.out.2.1 (by decide) HG2.out).mono ?_; rintro e wE2 ⟨CE2, rfl, h4, h5⟩; have HE2 := Lib.hid (And.intro (stored (t := 35) h4) (And.intro h4.sz (And.intro h4.one h5))); clear h4 h5)
      | (refine wpList_store_row rfl 35 (.tmp 13) (.tmp 113) rfl wE2.heap.size CE2 rfl rfl 35 zC (heap_alloc_new wE2 _) (by rw [HE2.out.2.1]; exact Try.infoS) (by rw [HE2.out.2.1, zC_size]) HE2.out.2.2.1 ?_))
    have BF2 : Below wC.heap.size wC ((wE2.alloc (.cells zC 35)).setRow wE2.heap.size CE2) := (HY2.out.2.2.trans (HE2.out.2.2.2.mono HY2.out.2.2.size)).trans (HE2.out.1.2.2.mono (HY2.out.2.2.trans (HE2.out.2.2.2.mono HY2.out.2.2.size)).size)
    have HF2 := Lib.hid BF2
    clear BF2
    generalize (wE2.alloc (.cells zC 35)).setRow wE2.heap.size CE2 = wF2 at *
    have hoD3 : Own (wF2.alloc (.cells #[.int .u8 4] 5)) wF2.heap.size (.slice (some ⟨wF2.heap.size, 0, none⟩) 1 1) [4] := Own.lit1 wF2 4
    have HD3 := Lib.hid (And.intro hoD3 (And.intro ((own_tail HO.out.1.2).below (HF2.out.alloc HF2.out.size (.cells #[.int .u8 4] 5))) (HF2.out.alloc HF2.out.size (.cells #[.int .u8 4] 5))))
    clear hoD3
    go_wp2_with (at_builtin; refine wpList_append_bytes _ rfl (.tmp 117) (.tmp 119) 22 rfl Try.underlying22 Try.info5 _ _ [4] rfl HD3.out.1 (· = gC) _ (nC' - 1) (cC - 1) R3 rfl (by omega) (by intro h; cases h) HD3.out.2.1 (by simp; omega) ?_)
    intro gD3 vD3 wD3 oD3 zD3 bD3 nD3
    obtain ⟨cD3, rfl, -, -, hgD3⟩ := oD3.shape nD3
    have BD3 : Below wC.heap.size wC wD3 := below_only HD3.out.2.2 HD3.out.2.2.size bD3 (by intro k hk e; have := HF2.out.size; omega)
    obtain ⟨mD3, hmD3⟩ : ∃ n, (4 :: R3).length = n := ⟨_, rfl⟩
    rw [hmD3] at oD3 ⊢
    have hmb3 : mD3 ≤ 30000 := by rw [← hmD3]; simp; omega
    have HY3 := Lib.hid (And.intro oD3 (And.intro hmD3 BD3))
    clear oD3 hmD3 BD3 nD3 bD3 zD3
    go_upto_region 12 with (first
      | (go_at_call 10; refine (get_n (· = gD3) _ mD3 cD3 (4 :: R3) 3 _ HY3.out.1.rd (by intro h; cases h) (by rw [HY3.out.2.1]; omega) HY3.out.2.1 (by decide) HG3.out).mono ?_; rintro e wE3 ⟨CE3, rfl, h4, h5⟩; have HE3 := Lib.hid (And.intro (stored (t := 35) h4) (And.intro h4.sz (And.intro h4.one h5))); clear h4 h5)
      | (refine wpList_store_row rfl 35 (.tmp 16) (.tmp 122) rfl wE3.heap.size CE3 rfl rfl 35 zC (heap_alloc_new wE3 _) (by rw [HE3.out.2.1]; exact Try.infoS) (by rw [HE3.out.2.1, zC_size]) HE3.out.2.2.1 ?_))
    have BF3 : Below wC.heap.size wC ((wE3.alloc (.cells zC 35)).setRow wE3.heap.size CE3) := (HY3.out.2.2.trans (HE3.out.2.2.2.mono HY3.out.2.2.size)).trans (HE3.out.1.2.2.mono (HY3.out.2.2.trans (HE3.out.2.2.2.mono HY3.out.2.2.size)).size)
    have HF3 := Lib.hid BF3
    clear BF3
    generalize (wE3.alloc (.cells zC 35)).setRow wE3.heap.size CE3 = wF3 at *
    go_wp2
    go_ret
    have h1 := HI.out.2.2.2.1.trans (HO.out.2.1.2.mono HI.out.2.2.2.1.size)
    exact ⟨rfl, h1.trans (HF3.out.mono h1.size)⟩
end Go.Proofs.Ytfilngbedlkhjaa
