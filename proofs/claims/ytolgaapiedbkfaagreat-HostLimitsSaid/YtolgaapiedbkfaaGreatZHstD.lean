/-
  The contract of host's start. Condition: a row of certificates that are not empty.
-/
import Derived.Test.YtolgaapiedbkfaaGreatZg10
namespace Go.Proofs.YtolgaapiedbkfaaGreat
open Go.RowKit Go.Kx Go.Maps
set_option linter.unusedVariables false
set_option linter.unusedSimpArgs false
set_option maxRecDepth 100000
def tkS : List UInt8 := [116, 105, 99, 107, 101, 116, 115]
def tkF : List UInt8 := macF k7 tkS
theorem tkF_len : tkF.length = 32 := macF_len _ _
theorem keyFor_k7 (TK : List UInt8) (h : TK = tkF) (w : World) : Calls Tryz.prog 32 #[.agg (k7.map B8).toArray, .string ⟨#[116, 105, 99, 107, 101, 116, 115]⟩] w fun e w' => e = .returned (.agg (TK.map B8).toArray) ∧ Below w.heap.size w w' := by
  subst h
  exact keyFor_g k7 tkS _ w rfl rfl (by decide) (by decide)
/-- A process that has just begun: its block, its maps. -/
def HsP (W : World) (j : Nat) (TK : List UInt8) (v7 : Value) (wx : World) : Prop := ∃ h mc mh, v7 = rp h ∧ Blk wx h 64 (hoV j (.slice none 0 0) TK mc mh 0 0 (.slice none 0 0) false) ∧ CnS wx mc (fun _ => none) 0 ∧ HadAt wx mh [] ∧ W.heap.size ≤ h ∧ W.heap.size ≤ mc ∧ W.heap.size ≤ mh ∧ mc ≠ mh ∧ mc < h ∧ mh < h ∧ Below W.heap.size W wx
theorem HsP.fin {W u : World} {j mc mh : Nat} {TK : List UInt8} (hS : Below W.heap.size W u) (hmc : CnS u mc (fun _ => none) 0) (hmh : HadAt u mh []) (h1 : W.heap.size ≤ mc) (h2 : W.heap.size ≤ mh) (h3 : mc ≠ mh) :
    HsP W j TK (rp u.heap.size) (u.alloc (.cells (hoV j (.slice none 0 0) TK mc mh 0 0 (.slice none 0 0) false) 64)) := by
  have hb := (Below.refl u.heap.size u).alloc (Nat.le_refl _) (.cells (hoV j (.slice none 0 0) TK mc mh 0 0 (.slice none 0 0) false) 64)
  exact ⟨u.heap.size, mc, mh, rfl, Blk.new _ _ _, hmc.only (Only.of_below hb : Only (fun _ => False) _ _) (fun h => h), hmh.only (Only.of_below hb : Only (fun _ => False) _ _) (fun h => h), hS.size, h1, h2, h3, hmc.lt, hmh.lt, hS.alloc hS.size _⟩
/-- What start tells. -/
def StrR (w : World) (j : Nat) (e : Ending) (w' : World) : Prop := ∃ h mc mh ch, e = .returned (rp h) ∧ Blk w' h 64 (hoV j ch tkF mc mh 0 0 (.slice none 0 0) false) ∧ CnS w' mc (fun _ => none) 0 ∧ HadAt w' mh [] ∧ w.heap.size ≤ h ∧ w.heap.size ≤ mc ∧ w.heap.size ≤ mh ∧ mc ≠ mh ∧ mc < h ∧ mh < h ∧ Below w.heap.size w w'
def HsL (w : World) (j : Nat) (TK : List UInt8) (h mc mh : Nat) (v21 : Value) (wr : World) : Prop := ∃ i : Nat, ∃ ch, v21 = .int .i64 (i : Int) ∧ i ≤ 1 ∧ (i = 0 → ch = .slice none 0 0) ∧ Blk wr h 64 (hoV j ch TK mc mh 0 0 (.slice none 0 0) false) ∧ CnS wr mc (fun _ => none) 0 ∧ HadAt wr mh [] ∧ Below w.heap.size w wr
set_option maxHeartbeats 16000000 in
theorem start_c (j : Nat) (T : Nat → Prop) (p : Option Addr) (m c : Nat) (w : World) (hch : RwI w T (.slice p 1 c) [[1, 2, 3]]) : Calls Tryz.prog 15 #[rp j, .agg (k7.map B8).toArray, .slice p 1 c] w (StrR w j) := by
  have hkz : ((k7.map B8).toArray).size = 32 := rfl
  have HCh := Lib.hid hch
  clear hch
  obtain ⟨TK, hTK0⟩ : ∃ TK, TK = tkF := ⟨_, rfl⟩
  have hTK := Lib.hid (And.intro hTK0 (show TK.length = 32 by rw [hTK0]; exact tkF_len))
  clear hTK0
  go_enter Tryz.func15, Tryz.ntmps15
  go_upto_region 1 with (fail)
  refine wp_world (fun W => ArrB W w.heap.size 29 k7 ∧ Below w.heap.size w W ∧ w.heap.size + 1 ≤ W.heap.size) ?_ ?_
  · exact ⟨ArrB.new w _ k7, (Below.refl _ w).alloc (Nat.le_refl _) _, by simp⟩
  intro W hW
  have HW := Lib.hid hW
  clear hW
  go_cut [7] from 10 to 18 (fun v7 wx => HsP W j TK v7 wx)
  case first =>
    refine wp_region_tail (S := fun wx => Below W.heap.size W wx) (n := 7) (by kernel_rfl) (by decide) ?_
    try simp only [List.drop_succ_cons, List.drop_zero]
    obtain ⟨u0, hu0⟩ : ∃ u, u = W.drew := ⟨_, rfl⟩
    have hS : Below W.heap.size W u0 := by rw [hu0]; exact (Below.refl _ _).drew
    rw [← hu0]
    clear hu0
    try simp only [Act.put]
    refine wpAnyT_take (i := 0) (oi := _) (v := (rp j)) rfl (by kernel_rfl) (fun _ _ _ h => h) (by kernel_rfl) (fun wq hq => rfl) hS ?_
    try simp only [List.getElem_toArray, List.getElem_cons_succ, List.getElem_cons_zero, Act.put, List.setIfInBounds_toArray, List.set_cons_zero, List.set_cons_succ]
    refine wpAnyT_take (i := 1) (oi := _) (v := (.agg (k7.map B8).toArray)) rfl (by kernel_rfl) (fun _ _ _ h => h) (by kernel_rfl) (fun wq hq => run_ldB (HW.out.1.below hq) Tryz.underlying29 Tryz.infoB32 k7_len rfl) hS ?_
    try simp only [List.getElem_toArray, List.getElem_cons_succ, List.getElem_cons_zero, Act.put, List.setIfInBounds_toArray, List.set_cons_zero, List.set_cons_succ]
    refine wpAnyT_take (i := 2) (oi := _) (v := (.agg (k7.map B8).toArray)) rfl (by kernel_rfl) (fun _ _ _ h => h) (by kernel_rfl) (fun wq hq => run_ldB (HW.out.1.below hq) Tryz.underlying29 Tryz.infoB32 k7_len rfl) hS ?_
    try simp only [List.getElem_toArray, List.getElem_cons_succ, List.getElem_cons_zero, Act.put, List.setIfInBounds_toArray, List.set_cons_zero, List.set_cons_succ]
    refine wpAnyT_ready (rs := [3, 5, 6]) (by kernel_rfl) (by simp) ?_
    refine AllReadyT.cons rfl (by decide) (fun K hC => ?_) (AllReadyT.cons rfl (by decide) (fun K hC => ?_) (AllReadyT.cons rfl (by decide) (fun K hC => ?_) AllReadyT.nil))
    · go_simp
      go_wp2_with (go_at_call 32; apply Calls.mono; (· (exact keyFor_k7 TK hTK.out.1 _)); rintro e u1 ⟨rfl, bu1⟩)
      have hS := hS.trans (bu1.mono hS.size)
      refine hC.out _ _ hS ?_
      clear hC K bu1
      try simp only [List.getElem_toArray, List.getElem_cons_succ, List.getElem_cons_zero, Act.put, List.setIfInBounds_toArray, List.set_cons_zero, List.set_cons_succ]
      refine wpAnyT_ready (rs := [4, 5, 6]) (by kernel_rfl) (by simp) ?_
      refine AllReadyT.cons rfl (by decide) (fun K hC => ?_) (AllReadyT.cons rfl (by decide) (fun K hC => ?_) (AllReadyT.cons rfl (by decide) (fun K hC => ?_) AllReadyT.nil))
      · go_simp
        go_wp2_with (go_at_call 37; apply Calls.mono; (· (exact tnew_c TK _ hTK.out.2)); rintro e u2 ⟨rfl, bu2⟩)
        have hS := hS.trans (bu2.mono hS.size)
        refine hC.out _ _ hS ?_
        clear hC K bu2
        try simp only [List.getElem_toArray, List.getElem_cons_succ, List.getElem_cons_zero, Act.put, List.setIfInBounds_toArray, List.set_cons_zero, List.set_cons_succ]
        refine wpAnyT_ready (rs := [5, 6]) (by kernel_rfl) (by simp) ?_
        refine AllReadyT.cons rfl (by decide) (fun K hC => ?_) (AllReadyT.cons rfl (by decide) (fun K hC => ?_) AllReadyT.nil)
        · go_simp
          go_wp2
          have hge := hS.size
          have hb := (Below.refl u2.heap.size u2).alloc (Nat.le_refl _) (.map #[] 0)
          have hS := hS.alloc hS.size (.map #[] 0)
          have hmc := CnS.new u2
          refine hC.out _ _ hS ?_
          clear hC K hb
          try simp only [List.getElem_toArray, List.getElem_cons_succ, List.getElem_cons_zero, Act.put, List.setIfInBounds_toArray, List.set_cons_zero, List.set_cons_succ]
          obtain ⟨mc, he⟩ : ∃ b, b = u2.heap.size := ⟨_, rfl⟩
          have hgemc : W.heap.size ≤ mc := by omega
          rw [← he] at hmc ⊢
          obtain ⟨u3, hu⟩ : ∃ u : World, u = u2.alloc (.map #[] 0) := ⟨_, rfl⟩
          rw [← hu] at hmc hS
          change wpAnyT _ _ _ _ _ _ _ _ _ _ (u2.alloc (.map #[] 0))
          rw [← hu]
          clear he hge hu
          refine wpAnyT_ready (rs := [6]) (by kernel_rfl) (by simp) ?_
          refine AllReadyT.cons rfl (by decide) (fun K hC => ?_) AllReadyT.nil
          · go_simp
            go_wp2
            have hge := hS.size
            have hb := (Below.refl u3.heap.size u3).alloc (Nat.le_refl _) (.map #[] 0)
            have hlt := hmc.lt
            have hmc := hmc.only (Only.of_below hb : Only (fun _ => False) _ _) (fun h => h)
            have hS := hS.alloc hS.size (.map #[] 0)
            have hmh := HadAt.new u3
            refine hC.out _ _ hS ?_
            clear hC K hb
            try simp only [List.getElem_toArray, List.getElem_cons_succ, List.getElem_cons_zero, Act.put, List.setIfInBounds_toArray, List.set_cons_zero, List.set_cons_succ]
            obtain ⟨mh, he⟩ : ∃ b, b = u3.heap.size := ⟨_, rfl⟩
            have hnemm : mc ≠ mh := by omega
            have hgemh : W.heap.size ≤ mh := by omega
            rw [← he] at hmh ⊢
            obtain ⟨u4, hu⟩ : ∃ u : World, u = u3.alloc (.map #[] 0) := ⟨_, rfl⟩
            rw [← hu] at hmh hS hmc
            change wpAnyT _ _ _ _ _ _ _ _ _ _ (u3.alloc (.map #[] 0))
            rw [← hu]
            clear he hge hu hlt
            refine wpAnyT_tail (by kernel_rfl) ?_
            try simp only [List.getElem_toArray, List.getElem_cons_succ, List.getElem_cons_zero, Act.put, List.setIfInBounds_toArray, List.set_cons_zero, List.set_cons_succ]
            go_wp2_with (refine wpList_build_eq rfl 64 _ rfl (C := hoV j (.slice none 0 0) TK mc mh 0 0 (.slice none 0 0) false) (l := [(0, rp j), (1, .agg (k7.map B8).toArray), (3, .agg (tkV TK)), (4, .map (some mc)), (5, .map (some mh))]) (by simp [Act.eval, Act.put]) (Tryz.builtHo j TK hTK.out.2 mc mh) ?_)
            go_meet
            exact HsP.fin hS hmc hmh hgemc hgemh hnemm
        · go_simp
          go_wp2
          have hge := hS.size
          have hb := (Below.refl u2.heap.size u2).alloc (Nat.le_refl _) (.map #[] 0)
          have hS := hS.alloc hS.size (.map #[] 0)
          have hmh := HadAt.new u2
          refine hC.out _ _ hS ?_
          clear hC K hb
          try simp only [List.getElem_toArray, List.getElem_cons_succ, List.getElem_cons_zero, Act.put, List.setIfInBounds_toArray, List.set_cons_zero, List.set_cons_succ]
          obtain ⟨mh, he⟩ : ∃ b, b = u2.heap.size := ⟨_, rfl⟩
          have hgemh : W.heap.size ≤ mh := by omega
          rw [← he] at hmh ⊢
          obtain ⟨u5, hu⟩ : ∃ u : World, u = u2.alloc (.map #[] 0) := ⟨_, rfl⟩
          rw [← hu] at hmh hS
          change wpAnyT _ _ _ _ _ _ _ _ _ _ (u2.alloc (.map #[] 0))
          rw [← hu]
          clear he hge hu
          refine wpAnyT_ready (rs := [5]) (by kernel_rfl) (by simp) ?_
          refine AllReadyT.cons rfl (by decide) (fun K hC => ?_) AllReadyT.nil
          · go_simp
            go_wp2
            have hge := hS.size
            have hb := (Below.refl u5.heap.size u5).alloc (Nat.le_refl _) (.map #[] 0)
            have hlt := hmh.lt
            have hmh := hmh.only (Only.of_below hb : Only (fun _ => False) _ _) (fun h => h)
            have hS := hS.alloc hS.size (.map #[] 0)
            have hmc := CnS.new u5
            refine hC.out _ _ hS ?_
            clear hC K hb
            try simp only [List.getElem_toArray, List.getElem_cons_succ, List.getElem_cons_zero, Act.put, List.setIfInBounds_toArray, List.set_cons_zero, List.set_cons_succ]
            obtain ⟨mc, he⟩ : ∃ b, b = u5.heap.size := ⟨_, rfl⟩
            have hnemm : mc ≠ mh := by omega
            have hgemc : W.heap.size ≤ mc := by omega
            rw [← he] at hmc ⊢
            obtain ⟨u6, hu⟩ : ∃ u : World, u = u5.alloc (.map #[] 0) := ⟨_, rfl⟩
            rw [← hu] at hmc hS hmh
            change wpAnyT _ _ _ _ _ _ _ _ _ _ (u5.alloc (.map #[] 0))
            rw [← hu]
            clear he hge hu hlt
            refine wpAnyT_tail (by kernel_rfl) ?_
            try simp only [List.getElem_toArray, List.getElem_cons_succ, List.getElem_cons_zero, Act.put, List.setIfInBounds_toArray, List.set_cons_zero, List.set_cons_succ]
            go_wp2_with (refine wpList_build_eq rfl 64 _ rfl (C := hoV j (.slice none 0 0) TK mc mh 0 0 (.slice none 0 0) false) (l := [(0, rp j), (1, .agg (k7.map B8).toArray), (3, .agg (tkV TK)), (4, .map (some mc)), (5, .map (some mh))]) (by simp [Act.eval, Act.put]) (Tryz.builtHo j TK hTK.out.2 mc mh) ?_)
            go_meet
            exact HsP.fin hS hmc hmh hgemc hgemh hnemm
      · go_simp
        go_wp2
        have hge := hS.size
        have hb := (Below.refl u1.heap.size u1).alloc (Nat.le_refl _) (.map #[] 0)
        have hS := hS.alloc hS.size (.map #[] 0)
        have hmc := CnS.new u1
        refine hC.out _ _ hS ?_
        clear hC K hb
        try simp only [List.getElem_toArray, List.getElem_cons_succ, List.getElem_cons_zero, Act.put, List.setIfInBounds_toArray, List.set_cons_zero, List.set_cons_succ]
        obtain ⟨mc, he⟩ : ∃ b, b = u1.heap.size := ⟨_, rfl⟩
        have hgemc : W.heap.size ≤ mc := by omega
        rw [← he] at hmc ⊢
        obtain ⟨u7, hu⟩ : ∃ u : World, u = u1.alloc (.map #[] 0) := ⟨_, rfl⟩
        rw [← hu] at hmc hS
        change wpAnyT _ _ _ _ _ _ _ _ _ _ (u1.alloc (.map #[] 0))
        rw [← hu]
        clear he hge hu
        refine wpAnyT_ready (rs := [4, 6]) (by kernel_rfl) (by simp) ?_
        refine AllReadyT.cons rfl (by decide) (fun K hC => ?_) (AllReadyT.cons rfl (by decide) (fun K hC => ?_) AllReadyT.nil)
        · go_simp
          go_wp2_with (go_at_call 37; apply Calls.mono; (· (exact tnew_c TK _ hTK.out.2)); rintro e u8 ⟨rfl, bu8⟩)
          have hS := hS.trans (bu8.mono hS.size)
          have hmc := hmc.only (Only.of_below bu8 : Only (fun _ => False) _ _) (fun h => h)
          refine hC.out _ _ hS ?_
          clear hC K bu8
          try simp only [List.getElem_toArray, List.getElem_cons_succ, List.getElem_cons_zero, Act.put, List.setIfInBounds_toArray, List.set_cons_zero, List.set_cons_succ]
          refine wpAnyT_ready (rs := [6]) (by kernel_rfl) (by simp) ?_
          refine AllReadyT.cons rfl (by decide) (fun K hC => ?_) AllReadyT.nil
          · go_simp
            go_wp2
            have hge := hS.size
            have hb := (Below.refl u8.heap.size u8).alloc (Nat.le_refl _) (.map #[] 0)
            have hlt := hmc.lt
            have hmc := hmc.only (Only.of_below hb : Only (fun _ => False) _ _) (fun h => h)
            have hS := hS.alloc hS.size (.map #[] 0)
            have hmh := HadAt.new u8
            refine hC.out _ _ hS ?_
            clear hC K hb
            try simp only [List.getElem_toArray, List.getElem_cons_succ, List.getElem_cons_zero, Act.put, List.setIfInBounds_toArray, List.set_cons_zero, List.set_cons_succ]
            obtain ⟨mh, he⟩ : ∃ b, b = u8.heap.size := ⟨_, rfl⟩
            have hnemm : mc ≠ mh := by omega
            have hgemh : W.heap.size ≤ mh := by omega
            rw [← he] at hmh ⊢
            obtain ⟨u9, hu⟩ : ∃ u : World, u = u8.alloc (.map #[] 0) := ⟨_, rfl⟩
            rw [← hu] at hmh hS hmc
            change wpAnyT _ _ _ _ _ _ _ _ _ _ (u8.alloc (.map #[] 0))
            rw [← hu]
            clear he hge hu hlt
            refine wpAnyT_tail (by kernel_rfl) ?_
            try simp only [List.getElem_toArray, List.getElem_cons_succ, List.getElem_cons_zero, Act.put, List.setIfInBounds_toArray, List.set_cons_zero, List.set_cons_succ]
            go_wp2_with (refine wpList_build_eq rfl 64 _ rfl (C := hoV j (.slice none 0 0) TK mc mh 0 0 (.slice none 0 0) false) (l := [(0, rp j), (1, .agg (k7.map B8).toArray), (3, .agg (tkV TK)), (4, .map (some mc)), (5, .map (some mh))]) (by simp [Act.eval, Act.put]) (Tryz.builtHo j TK hTK.out.2 mc mh) ?_)
            go_meet
            exact HsP.fin hS hmc hmh hgemc hgemh hnemm
        · go_simp
          go_wp2
          have hge := hS.size
          have hb := (Below.refl u7.heap.size u7).alloc (Nat.le_refl _) (.map #[] 0)
          have hlt := hmc.lt
          have hmc := hmc.only (Only.of_below hb : Only (fun _ => False) _ _) (fun h => h)
          have hS := hS.alloc hS.size (.map #[] 0)
          have hmh := HadAt.new u7
          refine hC.out _ _ hS ?_
          clear hC K hb
          try simp only [List.getElem_toArray, List.getElem_cons_succ, List.getElem_cons_zero, Act.put, List.setIfInBounds_toArray, List.set_cons_zero, List.set_cons_succ]
          obtain ⟨mh, he⟩ : ∃ b, b = u7.heap.size := ⟨_, rfl⟩
          have hnemm : mc ≠ mh := by omega
          have hgemh : W.heap.size ≤ mh := by omega
          rw [← he] at hmh ⊢
          obtain ⟨u10, hu⟩ : ∃ u : World, u = u7.alloc (.map #[] 0) := ⟨_, rfl⟩
          rw [← hu] at hmh hS hmc
          change wpAnyT _ _ _ _ _ _ _ _ _ _ (u7.alloc (.map #[] 0))
          rw [← hu]
          clear he hge hu hlt
          refine wpAnyT_ready (rs := [4]) (by kernel_rfl) (by simp) ?_
          refine AllReadyT.cons rfl (by decide) (fun K hC => ?_) AllReadyT.nil
          · go_simp
            go_wp2_with (go_at_call 37; apply Calls.mono; (· (exact tnew_c TK _ hTK.out.2)); rintro e u11 ⟨rfl, bu11⟩)
            have hS := hS.trans (bu11.mono hS.size)
            have hmc := hmc.only (Only.of_below bu11 : Only (fun _ => False) _ _) (fun h => h)
            have hmh := hmh.only (Only.of_below bu11 : Only (fun _ => False) _ _) (fun h => h)
            refine hC.out _ _ hS ?_
            clear hC K bu11
            try simp only [List.getElem_toArray, List.getElem_cons_succ, List.getElem_cons_zero, Act.put, List.setIfInBounds_toArray, List.set_cons_zero, List.set_cons_succ]
            refine wpAnyT_tail (by kernel_rfl) ?_
            try simp only [List.getElem_toArray, List.getElem_cons_succ, List.getElem_cons_zero, Act.put, List.setIfInBounds_toArray, List.set_cons_zero, List.set_cons_succ]
            go_wp2_with (refine wpList_build_eq rfl 64 _ rfl (C := hoV j (.slice none 0 0) TK mc mh 0 0 (.slice none 0 0) false) (l := [(0, rp j), (1, .agg (k7.map B8).toArray), (3, .agg (tkV TK)), (4, .map (some mc)), (5, .map (some mh))]) (by simp [Act.eval, Act.put]) (Tryz.builtHo j TK hTK.out.2 mc mh) ?_)
            go_meet
            exact HsP.fin hS hmc hmh hgemc hgemh hnemm
      · go_simp
        go_wp2
        have hge := hS.size
        have hb := (Below.refl u1.heap.size u1).alloc (Nat.le_refl _) (.map #[] 0)
        have hS := hS.alloc hS.size (.map #[] 0)
        have hmh := HadAt.new u1
        refine hC.out _ _ hS ?_
        clear hC K hb
        try simp only [List.getElem_toArray, List.getElem_cons_succ, List.getElem_cons_zero, Act.put, List.setIfInBounds_toArray, List.set_cons_zero, List.set_cons_succ]
        obtain ⟨mh, he⟩ : ∃ b, b = u1.heap.size := ⟨_, rfl⟩
        have hgemh : W.heap.size ≤ mh := by omega
        rw [← he] at hmh ⊢
        obtain ⟨u12, hu⟩ : ∃ u : World, u = u1.alloc (.map #[] 0) := ⟨_, rfl⟩
        rw [← hu] at hmh hS
        change wpAnyT _ _ _ _ _ _ _ _ _ _ (u1.alloc (.map #[] 0))
        rw [← hu]
        clear he hge hu
        refine wpAnyT_ready (rs := [4, 5]) (by kernel_rfl) (by simp) ?_
        refine AllReadyT.cons rfl (by decide) (fun K hC => ?_) (AllReadyT.cons rfl (by decide) (fun K hC => ?_) AllReadyT.nil)
        · go_simp
          go_wp2_with (go_at_call 37; apply Calls.mono; (· (exact tnew_c TK _ hTK.out.2)); rintro e u13 ⟨rfl, bu13⟩)
          have hS := hS.trans (bu13.mono hS.size)
          have hmh := hmh.only (Only.of_below bu13 : Only (fun _ => False) _ _) (fun h => h)
          refine hC.out _ _ hS ?_
          clear hC K bu13
          try simp only [List.getElem_toArray, List.getElem_cons_succ, List.getElem_cons_zero, Act.put, List.setIfInBounds_toArray, List.set_cons_zero, List.set_cons_succ]
          refine wpAnyT_ready (rs := [5]) (by kernel_rfl) (by simp) ?_
          refine AllReadyT.cons rfl (by decide) (fun K hC => ?_) AllReadyT.nil
          · go_simp
            go_wp2
            have hge := hS.size
            have hb := (Below.refl u13.heap.size u13).alloc (Nat.le_refl _) (.map #[] 0)
            have hlt := hmh.lt
            have hmh := hmh.only (Only.of_below hb : Only (fun _ => False) _ _) (fun h => h)
            have hS := hS.alloc hS.size (.map #[] 0)
            have hmc := CnS.new u13
            refine hC.out _ _ hS ?_
            clear hC K hb
            try simp only [List.getElem_toArray, List.getElem_cons_succ, List.getElem_cons_zero, Act.put, List.setIfInBounds_toArray, List.set_cons_zero, List.set_cons_succ]
            obtain ⟨mc, he⟩ : ∃ b, b = u13.heap.size := ⟨_, rfl⟩
            have hnemm : mc ≠ mh := by omega
            have hgemc : W.heap.size ≤ mc := by omega
            rw [← he] at hmc ⊢
            obtain ⟨u14, hu⟩ : ∃ u : World, u = u13.alloc (.map #[] 0) := ⟨_, rfl⟩
            rw [← hu] at hmc hS hmh
            change wpAnyT _ _ _ _ _ _ _ _ _ _ (u13.alloc (.map #[] 0))
            rw [← hu]
            clear he hge hu hlt
            refine wpAnyT_tail (by kernel_rfl) ?_
            try simp only [List.getElem_toArray, List.getElem_cons_succ, List.getElem_cons_zero, Act.put, List.setIfInBounds_toArray, List.set_cons_zero, List.set_cons_succ]
            go_wp2_with (refine wpList_build_eq rfl 64 _ rfl (C := hoV j (.slice none 0 0) TK mc mh 0 0 (.slice none 0 0) false) (l := [(0, rp j), (1, .agg (k7.map B8).toArray), (3, .agg (tkV TK)), (4, .map (some mc)), (5, .map (some mh))]) (by simp [Act.eval, Act.put]) (Tryz.builtHo j TK hTK.out.2 mc mh) ?_)
            go_meet
            exact HsP.fin hS hmc hmh hgemc hgemh hnemm
        · go_simp
          go_wp2
          have hge := hS.size
          have hb := (Below.refl u12.heap.size u12).alloc (Nat.le_refl _) (.map #[] 0)
          have hlt := hmh.lt
          have hmh := hmh.only (Only.of_below hb : Only (fun _ => False) _ _) (fun h => h)
          have hS := hS.alloc hS.size (.map #[] 0)
          have hmc := CnS.new u12
          refine hC.out _ _ hS ?_
          clear hC K hb
          try simp only [List.getElem_toArray, List.getElem_cons_succ, List.getElem_cons_zero, Act.put, List.setIfInBounds_toArray, List.set_cons_zero, List.set_cons_succ]
          obtain ⟨mc, he⟩ : ∃ b, b = u12.heap.size := ⟨_, rfl⟩
          have hnemm : mc ≠ mh := by omega
          have hgemc : W.heap.size ≤ mc := by omega
          rw [← he] at hmc ⊢
          obtain ⟨u15, hu⟩ : ∃ u : World, u = u12.alloc (.map #[] 0) := ⟨_, rfl⟩
          rw [← hu] at hmc hS hmh
          change wpAnyT _ _ _ _ _ _ _ _ _ _ (u12.alloc (.map #[] 0))
          rw [← hu]
          clear he hge hu hlt
          refine wpAnyT_ready (rs := [4]) (by kernel_rfl) (by simp) ?_
          refine AllReadyT.cons rfl (by decide) (fun K hC => ?_) AllReadyT.nil
          · go_simp
            go_wp2_with (go_at_call 37; apply Calls.mono; (· (exact tnew_c TK _ hTK.out.2)); rintro e u16 ⟨rfl, bu16⟩)
            have hS := hS.trans (bu16.mono hS.size)
            have hmc := hmc.only (Only.of_below bu16 : Only (fun _ => False) _ _) (fun h => h)
            have hmh := hmh.only (Only.of_below bu16 : Only (fun _ => False) _ _) (fun h => h)
            refine hC.out _ _ hS ?_
            clear hC K bu16
            try simp only [List.getElem_toArray, List.getElem_cons_succ, List.getElem_cons_zero, Act.put, List.setIfInBounds_toArray, List.set_cons_zero, List.set_cons_succ]
            refine wpAnyT_tail (by kernel_rfl) ?_
            try simp only [List.getElem_toArray, List.getElem_cons_succ, List.getElem_cons_zero, Act.put, List.setIfInBounds_toArray, List.set_cons_zero, List.set_cons_succ]
            go_wp2_with (refine wpList_build_eq rfl 64 _ rfl (C := hoV j (.slice none 0 0) TK mc mh 0 0 (.slice none 0 0) false) (l := [(0, rp j), (1, .agg (k7.map B8).toArray), (3, .agg (tkV TK)), (4, .map (some mc)), (5, .map (some mh))]) (by simp [Act.eval, Act.put]) (Tryz.builtHo j TK hTK.out.2 mc mh) ?_)
            go_meet
            exact HsP.fin hS hmc hmh hgemc hgemh hnemm
    · go_simp
      go_wp2
      have hge := hS.size
      have hb := (Below.refl u0.heap.size u0).alloc (Nat.le_refl _) (.map #[] 0)
      have hS := hS.alloc hS.size (.map #[] 0)
      have hmc := CnS.new u0
      refine hC.out _ _ hS ?_
      clear hC K hb
      try simp only [List.getElem_toArray, List.getElem_cons_succ, List.getElem_cons_zero, Act.put, List.setIfInBounds_toArray, List.set_cons_zero, List.set_cons_succ]
      obtain ⟨mc, he⟩ : ∃ b, b = u0.heap.size := ⟨_, rfl⟩
      have hgemc : W.heap.size ≤ mc := by omega
      rw [← he] at hmc ⊢
      obtain ⟨u17, hu⟩ : ∃ u : World, u = u0.alloc (.map #[] 0) := ⟨_, rfl⟩
      rw [← hu] at hmc hS
      change wpAnyT _ _ _ _ _ _ _ _ _ _ (u0.alloc (.map #[] 0))
      rw [← hu]
      clear he hge hu
      refine wpAnyT_ready (rs := [3, 6]) (by kernel_rfl) (by simp) ?_
      refine AllReadyT.cons rfl (by decide) (fun K hC => ?_) (AllReadyT.cons rfl (by decide) (fun K hC => ?_) AllReadyT.nil)
      · go_simp
        go_wp2_with (go_at_call 32; apply Calls.mono; (· (exact keyFor_k7 TK hTK.out.1 _)); rintro e u18 ⟨rfl, bu18⟩)
        have hS := hS.trans (bu18.mono hS.size)
        have hmc := hmc.only (Only.of_below bu18 : Only (fun _ => False) _ _) (fun h => h)
        refine hC.out _ _ hS ?_
        clear hC K bu18
        try simp only [List.getElem_toArray, List.getElem_cons_succ, List.getElem_cons_zero, Act.put, List.setIfInBounds_toArray, List.set_cons_zero, List.set_cons_succ]
        refine wpAnyT_ready (rs := [4, 6]) (by kernel_rfl) (by simp) ?_
        refine AllReadyT.cons rfl (by decide) (fun K hC => ?_) (AllReadyT.cons rfl (by decide) (fun K hC => ?_) AllReadyT.nil)
        · go_simp
          go_wp2_with (go_at_call 37; apply Calls.mono; (· (exact tnew_c TK _ hTK.out.2)); rintro e u19 ⟨rfl, bu19⟩)
          have hS := hS.trans (bu19.mono hS.size)
          have hmc := hmc.only (Only.of_below bu19 : Only (fun _ => False) _ _) (fun h => h)
          refine hC.out _ _ hS ?_
          clear hC K bu19
          try simp only [List.getElem_toArray, List.getElem_cons_succ, List.getElem_cons_zero, Act.put, List.setIfInBounds_toArray, List.set_cons_zero, List.set_cons_succ]
          refine wpAnyT_ready (rs := [6]) (by kernel_rfl) (by simp) ?_
          refine AllReadyT.cons rfl (by decide) (fun K hC => ?_) AllReadyT.nil
          · go_simp
            go_wp2
            have hge := hS.size
            have hb := (Below.refl u19.heap.size u19).alloc (Nat.le_refl _) (.map #[] 0)
            have hlt := hmc.lt
            have hmc := hmc.only (Only.of_below hb : Only (fun _ => False) _ _) (fun h => h)
            have hS := hS.alloc hS.size (.map #[] 0)
            have hmh := HadAt.new u19
            refine hC.out _ _ hS ?_
            clear hC K hb
            try simp only [List.getElem_toArray, List.getElem_cons_succ, List.getElem_cons_zero, Act.put, List.setIfInBounds_toArray, List.set_cons_zero, List.set_cons_succ]
            obtain ⟨mh, he⟩ : ∃ b, b = u19.heap.size := ⟨_, rfl⟩
            have hnemm : mc ≠ mh := by omega
            have hgemh : W.heap.size ≤ mh := by omega
            rw [← he] at hmh ⊢
            obtain ⟨u20, hu⟩ : ∃ u : World, u = u19.alloc (.map #[] 0) := ⟨_, rfl⟩
            rw [← hu] at hmh hS hmc
            change wpAnyT _ _ _ _ _ _ _ _ _ _ (u19.alloc (.map #[] 0))
            rw [← hu]
            clear he hge hu hlt
            refine wpAnyT_tail (by kernel_rfl) ?_
            try simp only [List.getElem_toArray, List.getElem_cons_succ, List.getElem_cons_zero, Act.put, List.setIfInBounds_toArray, List.set_cons_zero, List.set_cons_succ]
            go_wp2_with (refine wpList_build_eq rfl 64 _ rfl (C := hoV j (.slice none 0 0) TK mc mh 0 0 (.slice none 0 0) false) (l := [(0, rp j), (1, .agg (k7.map B8).toArray), (3, .agg (tkV TK)), (4, .map (some mc)), (5, .map (some mh))]) (by simp [Act.eval, Act.put]) (Tryz.builtHo j TK hTK.out.2 mc mh) ?_)
            go_meet
            exact HsP.fin hS hmc hmh hgemc hgemh hnemm
        · go_simp
          go_wp2
          have hge := hS.size
          have hb := (Below.refl u18.heap.size u18).alloc (Nat.le_refl _) (.map #[] 0)
          have hlt := hmc.lt
          have hmc := hmc.only (Only.of_below hb : Only (fun _ => False) _ _) (fun h => h)
          have hS := hS.alloc hS.size (.map #[] 0)
          have hmh := HadAt.new u18
          refine hC.out _ _ hS ?_
          clear hC K hb
          try simp only [List.getElem_toArray, List.getElem_cons_succ, List.getElem_cons_zero, Act.put, List.setIfInBounds_toArray, List.set_cons_zero, List.set_cons_succ]
          obtain ⟨mh, he⟩ : ∃ b, b = u18.heap.size := ⟨_, rfl⟩
          have hnemm : mc ≠ mh := by omega
          have hgemh : W.heap.size ≤ mh := by omega
          rw [← he] at hmh ⊢
          obtain ⟨u21, hu⟩ : ∃ u : World, u = u18.alloc (.map #[] 0) := ⟨_, rfl⟩
          rw [← hu] at hmh hS hmc
          change wpAnyT _ _ _ _ _ _ _ _ _ _ (u18.alloc (.map #[] 0))
          rw [← hu]
          clear he hge hu hlt
          refine wpAnyT_ready (rs := [4]) (by kernel_rfl) (by simp) ?_
          refine AllReadyT.cons rfl (by decide) (fun K hC => ?_) AllReadyT.nil
          · go_simp
            go_wp2_with (go_at_call 37; apply Calls.mono; (· (exact tnew_c TK _ hTK.out.2)); rintro e u22 ⟨rfl, bu22⟩)
            have hS := hS.trans (bu22.mono hS.size)
            have hmc := hmc.only (Only.of_below bu22 : Only (fun _ => False) _ _) (fun h => h)
            have hmh := hmh.only (Only.of_below bu22 : Only (fun _ => False) _ _) (fun h => h)
            refine hC.out _ _ hS ?_
            clear hC K bu22
            try simp only [List.getElem_toArray, List.getElem_cons_succ, List.getElem_cons_zero, Act.put, List.setIfInBounds_toArray, List.set_cons_zero, List.set_cons_succ]
            refine wpAnyT_tail (by kernel_rfl) ?_
            try simp only [List.getElem_toArray, List.getElem_cons_succ, List.getElem_cons_zero, Act.put, List.setIfInBounds_toArray, List.set_cons_zero, List.set_cons_succ]
            go_wp2_with (refine wpList_build_eq rfl 64 _ rfl (C := hoV j (.slice none 0 0) TK mc mh 0 0 (.slice none 0 0) false) (l := [(0, rp j), (1, .agg (k7.map B8).toArray), (3, .agg (tkV TK)), (4, .map (some mc)), (5, .map (some mh))]) (by simp [Act.eval, Act.put]) (Tryz.builtHo j TK hTK.out.2 mc mh) ?_)
            go_meet
            exact HsP.fin hS hmc hmh hgemc hgemh hnemm
      · go_simp
        go_wp2
        have hge := hS.size
        have hb := (Below.refl u17.heap.size u17).alloc (Nat.le_refl _) (.map #[] 0)
        have hlt := hmc.lt
        have hmc := hmc.only (Only.of_below hb : Only (fun _ => False) _ _) (fun h => h)
        have hS := hS.alloc hS.size (.map #[] 0)
        have hmh := HadAt.new u17
        refine hC.out _ _ hS ?_
        clear hC K hb
        try simp only [List.getElem_toArray, List.getElem_cons_succ, List.getElem_cons_zero, Act.put, List.setIfInBounds_toArray, List.set_cons_zero, List.set_cons_succ]
        obtain ⟨mh, he⟩ : ∃ b, b = u17.heap.size := ⟨_, rfl⟩
        have hnemm : mc ≠ mh := by omega
        have hgemh : W.heap.size ≤ mh := by omega
        rw [← he] at hmh ⊢
        obtain ⟨u23, hu⟩ : ∃ u : World, u = u17.alloc (.map #[] 0) := ⟨_, rfl⟩
        rw [← hu] at hmh hS hmc
        change wpAnyT _ _ _ _ _ _ _ _ _ _ (u17.alloc (.map #[] 0))
        rw [← hu]
        clear he hge hu hlt
        refine wpAnyT_ready (rs := [3]) (by kernel_rfl) (by simp) ?_
        refine AllReadyT.cons rfl (by decide) (fun K hC => ?_) AllReadyT.nil
        · go_simp
          go_wp2_with (go_at_call 32; apply Calls.mono; (· (exact keyFor_k7 TK hTK.out.1 _)); rintro e u24 ⟨rfl, bu24⟩)
          have hS := hS.trans (bu24.mono hS.size)
          have hmc := hmc.only (Only.of_below bu24 : Only (fun _ => False) _ _) (fun h => h)
          have hmh := hmh.only (Only.of_below bu24 : Only (fun _ => False) _ _) (fun h => h)
          refine hC.out _ _ hS ?_
          clear hC K bu24
          try simp only [List.getElem_toArray, List.getElem_cons_succ, List.getElem_cons_zero, Act.put, List.setIfInBounds_toArray, List.set_cons_zero, List.set_cons_succ]
          refine wpAnyT_ready (rs := [4]) (by kernel_rfl) (by simp) ?_
          refine AllReadyT.cons rfl (by decide) (fun K hC => ?_) AllReadyT.nil
          · go_simp
            go_wp2_with (go_at_call 37; apply Calls.mono; (· (exact tnew_c TK _ hTK.out.2)); rintro e u25 ⟨rfl, bu25⟩)
            have hS := hS.trans (bu25.mono hS.size)
            have hmc := hmc.only (Only.of_below bu25 : Only (fun _ => False) _ _) (fun h => h)
            have hmh := hmh.only (Only.of_below bu25 : Only (fun _ => False) _ _) (fun h => h)
            refine hC.out _ _ hS ?_
            clear hC K bu25
            try simp only [List.getElem_toArray, List.getElem_cons_succ, List.getElem_cons_zero, Act.put, List.setIfInBounds_toArray, List.set_cons_zero, List.set_cons_succ]
            refine wpAnyT_tail (by kernel_rfl) ?_
            try simp only [List.getElem_toArray, List.getElem_cons_succ, List.getElem_cons_zero, Act.put, List.setIfInBounds_toArray, List.set_cons_zero, List.set_cons_succ]
            go_wp2_with (refine wpList_build_eq rfl 64 _ rfl (C := hoV j (.slice none 0 0) TK mc mh 0 0 (.slice none 0 0) false) (l := [(0, rp j), (1, .agg (k7.map B8).toArray), (3, .agg (tkV TK)), (4, .map (some mc)), (5, .map (some mh))]) (by simp [Act.eval, Act.put]) (Tryz.builtHo j TK hTK.out.2 mc mh) ?_)
            go_meet
            exact HsP.fin hS hmc hmh hgemc hgemh hnemm
    · go_simp
      go_wp2
      have hge := hS.size
      have hb := (Below.refl u0.heap.size u0).alloc (Nat.le_refl _) (.map #[] 0)
      have hS := hS.alloc hS.size (.map #[] 0)
      have hmh := HadAt.new u0
      refine hC.out _ _ hS ?_
      clear hC K hb
      try simp only [List.getElem_toArray, List.getElem_cons_succ, List.getElem_cons_zero, Act.put, List.setIfInBounds_toArray, List.set_cons_zero, List.set_cons_succ]
      obtain ⟨mh, he⟩ : ∃ b, b = u0.heap.size := ⟨_, rfl⟩
      have hgemh : W.heap.size ≤ mh := by omega
      rw [← he] at hmh ⊢
      obtain ⟨u26, hu⟩ : ∃ u : World, u = u0.alloc (.map #[] 0) := ⟨_, rfl⟩
      rw [← hu] at hmh hS
      change wpAnyT _ _ _ _ _ _ _ _ _ _ (u0.alloc (.map #[] 0))
      rw [← hu]
      clear he hge hu
      refine wpAnyT_ready (rs := [3, 5]) (by kernel_rfl) (by simp) ?_
      refine AllReadyT.cons rfl (by decide) (fun K hC => ?_) (AllReadyT.cons rfl (by decide) (fun K hC => ?_) AllReadyT.nil)
      · go_simp
        go_wp2_with (go_at_call 32; apply Calls.mono; (· (exact keyFor_k7 TK hTK.out.1 _)); rintro e u27 ⟨rfl, bu27⟩)
        have hS := hS.trans (bu27.mono hS.size)
        have hmh := hmh.only (Only.of_below bu27 : Only (fun _ => False) _ _) (fun h => h)
        refine hC.out _ _ hS ?_
        clear hC K bu27
        try simp only [List.getElem_toArray, List.getElem_cons_succ, List.getElem_cons_zero, Act.put, List.setIfInBounds_toArray, List.set_cons_zero, List.set_cons_succ]
        refine wpAnyT_ready (rs := [4, 5]) (by kernel_rfl) (by simp) ?_
        refine AllReadyT.cons rfl (by decide) (fun K hC => ?_) (AllReadyT.cons rfl (by decide) (fun K hC => ?_) AllReadyT.nil)
        · go_simp
          go_wp2_with (go_at_call 37; apply Calls.mono; (· (exact tnew_c TK _ hTK.out.2)); rintro e u28 ⟨rfl, bu28⟩)
          have hS := hS.trans (bu28.mono hS.size)
          have hmh := hmh.only (Only.of_below bu28 : Only (fun _ => False) _ _) (fun h => h)
          refine hC.out _ _ hS ?_
          clear hC K bu28
          try simp only [List.getElem_toArray, List.getElem_cons_succ, List.getElem_cons_zero, Act.put, List.setIfInBounds_toArray, List.set_cons_zero, List.set_cons_succ]
          refine wpAnyT_ready (rs := [5]) (by kernel_rfl) (by simp) ?_
          refine AllReadyT.cons rfl (by decide) (fun K hC => ?_) AllReadyT.nil
          · go_simp
            go_wp2
            have hge := hS.size
            have hb := (Below.refl u28.heap.size u28).alloc (Nat.le_refl _) (.map #[] 0)
            have hlt := hmh.lt
            have hmh := hmh.only (Only.of_below hb : Only (fun _ => False) _ _) (fun h => h)
            have hS := hS.alloc hS.size (.map #[] 0)
            have hmc := CnS.new u28
            refine hC.out _ _ hS ?_
            clear hC K hb
            try simp only [List.getElem_toArray, List.getElem_cons_succ, List.getElem_cons_zero, Act.put, List.setIfInBounds_toArray, List.set_cons_zero, List.set_cons_succ]
            obtain ⟨mc, he⟩ : ∃ b, b = u28.heap.size := ⟨_, rfl⟩
            have hnemm : mc ≠ mh := by omega
            have hgemc : W.heap.size ≤ mc := by omega
            rw [← he] at hmc ⊢
            obtain ⟨u29, hu⟩ : ∃ u : World, u = u28.alloc (.map #[] 0) := ⟨_, rfl⟩
            rw [← hu] at hmc hS hmh
            change wpAnyT _ _ _ _ _ _ _ _ _ _ (u28.alloc (.map #[] 0))
            rw [← hu]
            clear he hge hu hlt
            refine wpAnyT_tail (by kernel_rfl) ?_
            try simp only [List.getElem_toArray, List.getElem_cons_succ, List.getElem_cons_zero, Act.put, List.setIfInBounds_toArray, List.set_cons_zero, List.set_cons_succ]
            go_wp2_with (refine wpList_build_eq rfl 64 _ rfl (C := hoV j (.slice none 0 0) TK mc mh 0 0 (.slice none 0 0) false) (l := [(0, rp j), (1, .agg (k7.map B8).toArray), (3, .agg (tkV TK)), (4, .map (some mc)), (5, .map (some mh))]) (by simp [Act.eval, Act.put]) (Tryz.builtHo j TK hTK.out.2 mc mh) ?_)
            go_meet
            exact HsP.fin hS hmc hmh hgemc hgemh hnemm
        · go_simp
          go_wp2
          have hge := hS.size
          have hb := (Below.refl u27.heap.size u27).alloc (Nat.le_refl _) (.map #[] 0)
          have hlt := hmh.lt
          have hmh := hmh.only (Only.of_below hb : Only (fun _ => False) _ _) (fun h => h)
          have hS := hS.alloc hS.size (.map #[] 0)
          have hmc := CnS.new u27
          refine hC.out _ _ hS ?_
          clear hC K hb
          try simp only [List.getElem_toArray, List.getElem_cons_succ, List.getElem_cons_zero, Act.put, List.setIfInBounds_toArray, List.set_cons_zero, List.set_cons_succ]
          obtain ⟨mc, he⟩ : ∃ b, b = u27.heap.size := ⟨_, rfl⟩
          have hnemm : mc ≠ mh := by omega
          have hgemc : W.heap.size ≤ mc := by omega
          rw [← he] at hmc ⊢
          obtain ⟨u30, hu⟩ : ∃ u : World, u = u27.alloc (.map #[] 0) := ⟨_, rfl⟩
          rw [← hu] at hmc hS hmh
          change wpAnyT _ _ _ _ _ _ _ _ _ _ (u27.alloc (.map #[] 0))
          rw [← hu]
          clear he hge hu hlt
          refine wpAnyT_ready (rs := [4]) (by kernel_rfl) (by simp) ?_
          refine AllReadyT.cons rfl (by decide) (fun K hC => ?_) AllReadyT.nil
          · go_simp
            go_wp2_with (go_at_call 37; apply Calls.mono; (· (exact tnew_c TK _ hTK.out.2)); rintro e u31 ⟨rfl, bu31⟩)
            have hS := hS.trans (bu31.mono hS.size)
            have hmc := hmc.only (Only.of_below bu31 : Only (fun _ => False) _ _) (fun h => h)
            have hmh := hmh.only (Only.of_below bu31 : Only (fun _ => False) _ _) (fun h => h)
            refine hC.out _ _ hS ?_
            clear hC K bu31
            try simp only [List.getElem_toArray, List.getElem_cons_succ, List.getElem_cons_zero, Act.put, List.setIfInBounds_toArray, List.set_cons_zero, List.set_cons_succ]
            refine wpAnyT_tail (by kernel_rfl) ?_
            try simp only [List.getElem_toArray, List.getElem_cons_succ, List.getElem_cons_zero, Act.put, List.setIfInBounds_toArray, List.set_cons_zero, List.set_cons_succ]
            go_wp2_with (refine wpList_build_eq rfl 64 _ rfl (C := hoV j (.slice none 0 0) TK mc mh 0 0 (.slice none 0 0) false) (l := [(0, rp j), (1, .agg (k7.map B8).toArray), (3, .agg (tkV TK)), (4, .map (some mc)), (5, .map (some mh))]) (by simp [Act.eval, Act.put]) (Tryz.builtHo j TK hTK.out.2 mc mh) ?_)
            go_meet
            exact HsP.fin hS hmc hmh hgemc hgemh hnemm
      · go_simp
        go_wp2
        have hge := hS.size
        have hb := (Below.refl u26.heap.size u26).alloc (Nat.le_refl _) (.map #[] 0)
        have hlt := hmh.lt
        have hmh := hmh.only (Only.of_below hb : Only (fun _ => False) _ _) (fun h => h)
        have hS := hS.alloc hS.size (.map #[] 0)
        have hmc := CnS.new u26
        refine hC.out _ _ hS ?_
        clear hC K hb
        try simp only [List.getElem_toArray, List.getElem_cons_succ, List.getElem_cons_zero, Act.put, List.setIfInBounds_toArray, List.set_cons_zero, List.set_cons_succ]
        obtain ⟨mc, he⟩ : ∃ b, b = u26.heap.size := ⟨_, rfl⟩
        have hnemm : mc ≠ mh := by omega
        have hgemc : W.heap.size ≤ mc := by omega
        rw [← he] at hmc ⊢
        obtain ⟨u32, hu⟩ : ∃ u : World, u = u26.alloc (.map #[] 0) := ⟨_, rfl⟩
        rw [← hu] at hmc hS hmh
        change wpAnyT _ _ _ _ _ _ _ _ _ _ (u26.alloc (.map #[] 0))
        rw [← hu]
        clear he hge hu hlt
        refine wpAnyT_ready (rs := [3]) (by kernel_rfl) (by simp) ?_
        refine AllReadyT.cons rfl (by decide) (fun K hC => ?_) AllReadyT.nil
        · go_simp
          go_wp2_with (go_at_call 32; apply Calls.mono; (· (exact keyFor_k7 TK hTK.out.1 _)); rintro e u33 ⟨rfl, bu33⟩)
          have hS := hS.trans (bu33.mono hS.size)
          have hmc := hmc.only (Only.of_below bu33 : Only (fun _ => False) _ _) (fun h => h)
          have hmh := hmh.only (Only.of_below bu33 : Only (fun _ => False) _ _) (fun h => h)
          refine hC.out _ _ hS ?_
          clear hC K bu33
          try simp only [List.getElem_toArray, List.getElem_cons_succ, List.getElem_cons_zero, Act.put, List.setIfInBounds_toArray, List.set_cons_zero, List.set_cons_succ]
          refine wpAnyT_ready (rs := [4]) (by kernel_rfl) (by simp) ?_
          refine AllReadyT.cons rfl (by decide) (fun K hC => ?_) AllReadyT.nil
          · go_simp
            go_wp2_with (go_at_call 37; apply Calls.mono; (· (exact tnew_c TK _ hTK.out.2)); rintro e u34 ⟨rfl, bu34⟩)
            have hS := hS.trans (bu34.mono hS.size)
            have hmc := hmc.only (Only.of_below bu34 : Only (fun _ => False) _ _) (fun h => h)
            have hmh := hmh.only (Only.of_below bu34 : Only (fun _ => False) _ _) (fun h => h)
            refine hC.out _ _ hS ?_
            clear hC K bu34
            try simp only [List.getElem_toArray, List.getElem_cons_succ, List.getElem_cons_zero, Act.put, List.setIfInBounds_toArray, List.set_cons_zero, List.set_cons_succ]
            refine wpAnyT_tail (by kernel_rfl) ?_
            try simp only [List.getElem_toArray, List.getElem_cons_succ, List.getElem_cons_zero, Act.put, List.setIfInBounds_toArray, List.set_cons_zero, List.set_cons_succ]
            go_wp2_with (refine wpList_build_eq rfl 64 _ rfl (C := hoV j (.slice none 0 0) TK mc mh 0 0 (.slice none 0 0) false) (l := [(0, rp j), (1, .agg (k7.map B8).toArray), (3, .agg (tkV TK)), (4, .map (some mc)), (5, .map (some mh))]) (by simp [Act.eval, Act.put]) (Tryz.builtHo j TK hTK.out.2 mc mh) ?_)
            go_meet
            exact HsP.fin hS hmc hmh hgemc hgemh hnemm
  case rest =>
    obtain ⟨h, mc, mh, rfl, hb, hmc, hmh, g1, g2, g3, g4, g5, g6, hB⟩ := hcut
    have hs := HW.out.2.2
    have hBw := HW.out.2.1.trans (hB.mono HW.out.2.1.size)
    have h0 : HsL w j TK h mc mh (.int .i64 0) wc := ⟨0, _, rfl, by decide, fun _ => rfl, hb, hmc, hmh, hBw⟩
    have H0 := Lib.hid (And.intro h0 (And.intro g1 (And.intro g2 (And.intro g3 (And.intro g4 (And.intro g5 (And.intro g6 hs)))))))
    clear h0 hb hmc hmh g1 g2 g3 g4 g5 g6 hB hs hBw
    go_upto_region 3 with (fail)
    go_loopw [9, 21] (fun v9 v21 wr => HsL w j TK h mc mh v21 wr) (fun v9 v21 _ => (1 - intOf v21).toNat)
    case atStart => exact H0.out.1
    case round =>
      obtain ⟨i, ch, rfl, hi, hch, hb, hmc, hmh, hB⟩ := hrel
      by_cases hi0 : i = 0
      · subst hi0
        obtain rfl := hch rfl
        have hrw := HCh.out.keep (Only.of_below hB : Only (fun _ => False) w wr) (fun _ _ h => h)
        obtain ⟨gc, q, cq, rfl, hce, hre, hcq, _⟩ := hrw.cell 0 (by decide)
        have hce' : wr.cell? ⟨gc, 0, none⟩ = some (.slice (some q) 3 cq) := hce
        have hre' : Rd wr T (some q) [1, 2, 3] := hre
        have hHG := hoV_get j (.slice none 0 0) TK hTK.out.2 mc mh 0 0 (.slice none 0 0) false
        have HB := Lib.hid (And.intro hb (And.intro hmc (And.intro hmh (And.intro hB (And.intro hre' hHG.2.1)))))
        have hhl := hb.lt
        clear hb hmc hmh hB hre hre' hce hrw hch hcq hHG hi
        go_upto_region 5 with (fail)
        refine wp_region_tail (S := fun wx => Below wr.heap.size wr wx) (n := 9) (by kernel_rfl) (by decide) ?_
        try simp only [List.drop_succ_cons, List.drop_zero]
        obtain ⟨u0, hu0⟩ : ∃ u, u = wr.drew := ⟨_, rfl⟩
        have hS : Below wr.heap.size wr u0 := by rw [hu0]; exact (Below.refl _ _).drew
        rw [← hu0]
        clear hu0 hce'
        try simp only [Act.put]
        refine wpAnyT_take (i := 0) (oi := _) (v := (rp h)) rfl (by kernel_rfl) (fun _ _ _ h => h) (by kernel_rfl) (fun wq hq => rfl) hS ?_
        try simp only [List.getElem_toArray, List.getElem_cons_succ, List.getElem_cons_zero, Act.put, List.setIfInBounds_toArray, List.set_cons_zero, List.set_cons_succ]
        refine wpAnyT_take (i := 1) (oi := _) (v := (rp h)) rfl (by kernel_rfl) (fun _ _ _ h => h) (by kernel_rfl) (fun wq hq => rfl) hS ?_
        try simp only [List.getElem_toArray, List.getElem_cons_succ, List.getElem_cons_zero, Act.put, List.setIfInBounds_toArray, List.set_cons_zero, List.set_cons_succ]
        refine wpAnyT_take (i := 2) (oi := _) (v := (rp h)) rfl (by kernel_rfl) (fun _ _ _ h => h) (by kernel_rfl) (fun wq hq => rfl) hS ?_
        try simp only [List.getElem_toArray, List.getElem_cons_succ, List.getElem_cons_zero, Act.put, List.setIfInBounds_toArray, List.set_cons_zero, List.set_cons_succ]
        refine wpAnyT_take (i := 3) (oi := _) (v := (.pointer (some ⟨h, 33, none⟩))) rfl (by kernel_rfl) (fun _ _ _ h => h) (by kernel_rfl) (fun wq hq => by go_simp) hS ?_
        try simp only [List.getElem_toArray, List.getElem_cons_succ, List.getElem_cons_zero, Act.put, List.setIfInBounds_toArray, List.set_cons_zero, List.set_cons_succ]
        refine wpAnyT_take (i := 4) (oi := _) (v := (.slice none 0 0)) rfl (by kernel_rfl) (fun _ _ _ h => h) (by kernel_rfl) (fun wq hq => by have h : wq.cell? ⟨h, 33, none⟩ = some (.slice none 0 0) := ((HB.out.1.below hq).c 33).trans HB.out.2.2.2.2.2; go_simp) hS ?_
        try simp only [List.getElem_toArray, List.getElem_cons_succ, List.getElem_cons_zero, Act.put, List.setIfInBounds_toArray, List.set_cons_zero, List.set_cons_succ]
        refine wpAnyT_take (i := 5) (oi := _) (v := (.slice (some q) 3 cq)) rfl (by kernel_rfl) (fun _ _ _ h => h) (by kernel_rfl) (fun wq hq => rfl) hS ?_
        try simp only [List.getElem_toArray, List.getElem_cons_succ, List.getElem_cons_zero, Act.put, List.setIfInBounds_toArray, List.set_cons_zero, List.set_cons_succ]
        refine wpAnyT_ready (rs := [6]) (by kernel_rfl) (by simp) ?_
        refine AllReadyT.cons rfl (by decide) (fun K hC => ?_) AllReadyT.nil
        go_simp
        go_wp2_with (go_at_call 38; apply Calls.mono; (· (with_reducible refine clone_c T q 3 cq [1, 2, 3] _ ?_ ?_ ?_); (· exact HB.out.2.2.2.2.1.below hS); (· decide); (· rfl)); rintro e w6 ⟨G6, c6, rfl, hG1, hG2, hG3, hG4, hG5, b6⟩)
        have hS := hS.trans (b6.mono hS.size)
        refine hC.out _ _ hS ?_
        clear hC K b6
        try simp only [List.getElem_toArray, List.getElem_cons_succ, List.getElem_cons_zero, Act.put, List.setIfInBounds_toArray, List.set_cons_zero, List.set_cons_succ]
        refine wpAnyT_ready (rs := [7]) (by kernel_rfl) (by simp) ?_
        refine AllReadyT.cons rfl (by decide) (fun K hC => ?_) AllReadyT.nil
        go_simp
        go_wp2
        have hc7 : (w6.alloc (.cells #[.slice (some ⟨G6, 0, none⟩) 3 c6] 38)).cell? ⟨w6.heap.size, 0, none⟩ = some (.slice (some ⟨G6, 0, none⟩) 3 c6) := (Blk.new w6 38 #[.slice (some ⟨G6, 0, none⟩) 3 c6]).c 0
        have hR7 : Rd (w6.alloc (.cells #[.slice (some ⟨G6, 0, none⟩) 3 c6] 38)) (fun x => True ∧ Value.ownBlock (.slice none 0 0) ≠ some x) (some ⟨G6, 0, none⟩) [1, 2, 3] := ((OB.of_own hG5).1.rd.below ((Below.refl _ w6).alloc (Nat.le_refl _) _)).mono (fun x _ _ => ⟨trivial, fun h => by cases h⟩)
        have hS := hS.alloc hS.size (.cells #[.slice (some ⟨G6, 0, none⟩) 3 c6] 38)
        refine hC.out _ _ hS ?_
        clear hC K
        try simp only [List.getElem_toArray, List.getElem_cons_succ, List.getElem_cons_zero, Act.put, List.setIfInBounds_toArray, List.set_cons_zero, List.set_cons_succ]
        obtain ⟨BL, hBL⟩ : ∃ BL, BL = w6.heap.size := ⟨_, rfl⟩
        rw [← hBL] at hc7 ⊢
        change wpAnyT _ _ _ _ _ _ _ _ _ _ (w6.alloc (.cells #[.slice (some ⟨G6, 0, none⟩) 3 c6] 38))
        generalize w6.alloc (.cells #[.slice (some ⟨G6, 0, none⟩) 3 c6] 38) = w7 at *
        refine wpAnyT_ready (rs := [8]) (by kernel_rfl) (by simp) ?_
        refine AllReadyT.cons rfl (by decide) (fun K hC => ?_) AllReadyT.nil
        refine step_rows (b := [1, 2, 3]) (E := []) rfl _ _ rfl (P := fun _ => True) (fun _ => True) rfl rfl (RwI.nil w7 _) hc7 hR7 hG3 (by decide) (fun _ h => h) trivial ?_
        intro p8 c8 w8 h8 hO8
        have hb8 := (HB.out.1.below hS).only hO8 (fun e => by cases e)
        have hmc8 := (HB.out.2.1.only (Only.of_below hS : Only (fun _ => False) _ _) (fun h => h)).only hO8 (fun e => by cases e)
        have hmh8 := (HB.out.2.2.1.only (Only.of_below hS : Only (fun _ => False) _ _) (fun h => h)).only hO8 (fun e => by cases e)
        have hS8 : Below wr.heap.size wr w8 := below_only hS hS.size hO8 (fun k hk e => by cases e)
        refine hC.out _ _ hS8 ?_
        have f8 := hb8.fr 33
        have d8 : w8.cell? ⟨h, 33, none⟩ = some (.slice none 0 0) := (hb8.c 33).trans HB.out.2.2.2.2.2
        clear hC K hR7 hc7 hG1 hG2 hG4 hG5 hBL hS hO8 h8
        try simp only [List.getElem_toArray, List.getElem_cons_succ, List.getElem_cons_zero, Act.put, List.setIfInBounds_toArray, List.set_cons_zero, List.set_cons_succ]
        refine wpAnyT_tail (by kernel_rfl) ?_
        try simp only [List.getElem_toArray, List.getElem_cons_succ, List.getElem_cons_zero, Act.put, List.setIfInBounds_toArray, List.set_cons_zero, List.set_cons_succ]
        go_wp2
        have ho9 : Only (fun x => x = h) w8 (w8.setCell ⟨h, 33, none⟩ (.slice p8 1 c8)) := (Only.refl (fun x => x = h) w8).setCell _ _ (.inl rfl)
        have hb9 := hb8.set 33 (.slice p8 1 c8)
        rw [(hoV_set j (.slice none 0 0) TK hTK.out.2 mc mh 0 0 (.slice none 0 0) false).1] at hb9
        have hne := H0.out.2
        exact ⟨⟨1, .slice p8 1 c8, rfl, by decide, by simp, hb9, hmc8.only ho9 (by omega), hmh8.only ho9 (by omega), below_only (HB.out.2.2.2.1.trans (hS8.mono HB.out.2.2.2.1.size)) (Nat.le_trans HB.out.2.2.2.1.size hS8.size) ho9 (fun k hk e => by omega)⟩, by simp [intOf]⟩
      · obtain rfl : i = 1 := by omega
        have HB := Lib.hid (And.intro hb (And.intro hmc (And.intro hmh hB)))
        clear hb hmc hmh hB hch hi hi0
        go_wp2
        go_ret
        have hne := H0.out.2
        exact ⟨h, mc, mh, ch, rfl, by rw [← hTK.out.1]; exact HB.out.1, HB.out.2.1, HB.out.2.2.1, by omega, by omega, by omega, hne.2.2.2.1, hne.2.2.2.2.1, hne.2.2.2.2.2.1, HB.out.2.2.2⟩
end Go.Proofs.YtolgaapiedbkfaaGreat
