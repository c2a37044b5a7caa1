/-
  The contracts of host's Close$1 and ends. Conditions: those of each theorem.
-/
import Derived.Test.YtolgaapiedbkfaaGreatZHstF
namespace Go.Proofs.YtolgaapiedbkfaaGreat
open Go.RowKit Go.Kx Go.Maps
set_option linter.unusedVariables false
set_option linter.unusedSimpArgs false
set_option maxRecDepth 100000
theorem coV_low (k : Nat) (h : k < 234) : coV[k]? = nC[k]? := by
  unfold coV
  rw [List.getElem?_toArray, List.getElem?_append_left (by simp [nC_size]; omega)]
  simp
theorem coV_236 : coV[236]? = some (.slice none 0 0) := by
  unfold coV
  rw [List.getElem?_toArray, List.getElem?_append_right (by simp [nC_size])]
  simp [nC_size]
theorem coV_range {w : World} {b : Nat} (h : Blk w b 74 coV) : w.rangeAt b 0 nC.toList := fun j x hx => by
  have hj : j < 234 := by have := (List.getElem?_eq_some_iff.1 hx).1; simpa [nC_size] using this
  rw [Nat.zero_add, h.c j, coV_low j hj]
  simpa using hx
/-- Two variables of a State and of what a step did, and all below is as it was. -/
def TwoI (w : World) (B : Nat) (W : World) : Prop := Blk W B 71 zC ∧ Blk W (B + 1) 79 (diD (.slice none 0 0)) ∧ Below w.heap.size w W
theorem TwoI.first (w : World) : TwoI w w.heap.size ((w.alloc (.cells zC 71)).alloc (.cells (diD (.slice none 0 0)) 79)) := by
  have b1 : Below w.heap.size w ((w.alloc (.cells zC 71)).alloc (.cells (diD (.slice none 0 0)) 79)) := ((Below.refl _ w).alloc (Nat.le_refl _) _).alloc (by simp) _
  have b2 := Blk.new w 71 zC
  have b3 := Blk.new (w.alloc (.cells zC 71)) 79 (diD (.slice none 0 0))
  rw [World.size_alloc] at b3
  exact ⟨b2.below ((Below.refl _ _).alloc (Nat.le_refl _) _), b3, b1⟩
set_option maxHeartbeats 4000000 in
theorem close1_c (b : Nat) (w : World) (hb : Blk w b 74 coV) : Calls Tryz.prog 23 #[rp b] w (ClR w) := by
  have hz := run_zeroS
  have hz2 := run_zeroDid
  go_enter Tryz.func23, Tryz.ntmps23
  go_upto_region 1 with (fail)
  refine wp_world (TwoI w w.heap.size) (TwoI.first w) ?_
  intro W hW
  have H := Lib.hid (And.intro hW (And.intro (hb.below hW.2.2) hb.lt))
  clear hW hb
  refine wp_region_tail (S := fun wx => Below W.heap.size W wx) (n := 12) (by kernel_rfl) (by decide) ?_
  try simp only [List.drop_succ_cons, List.drop_zero]
  obtain ⟨u0, hu0⟩ : ∃ u, u = W.drew := ⟨_, rfl⟩
  have hS : Below W.heap.size W u0 := by rw [hu0]; exact (Below.refl _ _).drew
  rw [← hu0]
  clear hu0
  try simp only [Act.put]
  refine wpAnyT_take (i := 0) (oi := _) (v := (rp b)) rfl (by kernel_rfl) (fun _ _ _ h => h) (by kernel_rfl) (fun wq hq => rfl) hS ?_
  try simp only [List.getElem_toArray, List.getElem_cons_succ, List.getElem_cons_zero, Act.put, List.setIfInBounds_toArray, List.set_cons_zero, List.set_cons_succ]
  refine wpAnyT_take (i := 1) (oi := _) (v := (rp b)) rfl (by kernel_rfl) (fun _ _ _ h => h) (by kernel_rfl) (fun wq hq => rfl) hS ?_
  try simp only [List.getElem_toArray, List.getElem_cons_succ, List.getElem_cons_zero, Act.put, List.setIfInBounds_toArray, List.set_cons_zero, List.set_cons_succ]
  refine wpAnyT_take (i := 2) (oi := _) (v := (rp b)) rfl (by kernel_rfl) (fun _ _ _ h => h) (by kernel_rfl) (fun wq hq => by go_simp) hS ?_
  try simp only [List.getElem_toArray, List.getElem_cons_succ, List.getElem_cons_zero, Act.put, List.setIfInBounds_toArray, List.set_cons_zero, List.set_cons_succ]
  refine wpAnyT_take (i := 3) (oi := _) (v := (.agg nC)) rfl (by kernel_rfl) (fun _ _ _ h => h) (by kernel_rfl) (fun wq hq => ex_load_mid 71 (.tmp 7) rfl b 0 rfl nC _ (coV_range (H.out.2.1.below hq)) Tryz.underlying71 rfl (by rw [nC_size]; exact Tryz.infoS)) hS ?_
  try simp only [List.getElem_toArray, List.getElem_cons_succ, List.getElem_cons_zero, Act.put, List.setIfInBounds_toArray, List.set_cons_zero, List.set_cons_succ]
  refine wpAnyT_take (i := 4) (oi := _) (v := (rp b)) rfl (by kernel_rfl) (fun _ _ _ h => h) (by kernel_rfl) (fun wq hq => rfl) hS ?_
  try simp only [List.getElem_toArray, List.getElem_cons_succ, List.getElem_cons_zero, Act.put, List.setIfInBounds_toArray, List.set_cons_zero, List.set_cons_succ]
  refine wpAnyT_take (i := 5) (oi := _) (v := (rp b)) rfl (by kernel_rfl) (fun _ _ _ h => h) (by kernel_rfl) (fun wq hq => rfl) hS ?_
  try simp only [List.getElem_toArray, List.getElem_cons_succ, List.getElem_cons_zero, Act.put, List.setIfInBounds_toArray, List.set_cons_zero, List.set_cons_succ]
  refine wpAnyT_take (i := 6) (oi := _) (v := (.pointer (some ⟨b, 236, none⟩))) rfl (by kernel_rfl) (fun _ _ _ h => h) (by kernel_rfl) (fun wq hq => by go_simp) hS ?_
  try simp only [List.getElem_toArray, List.getElem_cons_succ, List.getElem_cons_zero, Act.put, List.setIfInBounds_toArray, List.set_cons_zero, List.set_cons_succ]
  refine wpAnyT_take (i := 7) (oi := _) (v := (.slice none 0 0)) rfl (by kernel_rfl) (fun _ _ _ h => h) (by kernel_rfl) (fun wq hq => by have h : wq.cell? ⟨b, 236, none⟩ = some (.slice none 0 0) := ((H.out.2.1.below hq).c 236).trans coV_236; go_simp) hS ?_
  try simp only [List.getElem_toArray, List.getElem_cons_succ, List.getElem_cons_zero, Act.put, List.setIfInBounds_toArray, List.set_cons_zero, List.set_cons_succ]
  refine wpAnyT_ready (rs := [8]) (by kernel_rfl) (by simp) ?_
  refine AllReadyT.cons rfl (by decide) (fun K hC => ?_) AllReadyT.nil
  go_simp
  go_wp2_with (go_at_call 24; apply Calls.mono; (· (with_reducible exact sclose_c _)); rintro e w5 ⟨p5, c5, rfl, b5⟩)
  have hS := hS.trans (b5.mono hS.size)
  refine hC.out _ _ hS ?_
  clear hC K b5
  try simp only [List.getElem_toArray, List.getElem_cons_succ, List.getElem_cons_zero, Act.put, List.setIfInBounds_toArray, List.set_cons_zero, List.set_cons_succ]
  refine wpAnyT_take (i := 9) (oi := _) (v := (.agg cC)) rfl (by kernel_rfl) (fun _ _ _ h => h) (by kernel_rfl) (fun wq hq => rfl) hS ?_
  try simp only [List.getElem_toArray, List.getElem_cons_succ, List.getElem_cons_zero, Act.put, List.setIfInBounds_toArray, List.set_cons_zero, List.set_cons_succ]
  refine wpAnyT_take (i := 10) (oi := _) (v := (.agg (diD (.slice p5 7 c5)))) rfl (by kernel_rfl) (fun _ _ _ h => h) (by kernel_rfl) (fun wq hq => rfl) hS ?_
  try simp only [List.getElem_toArray, List.getElem_cons_succ, List.getElem_cons_zero, Act.put, List.setIfInBounds_toArray, List.set_cons_zero, List.set_cons_succ]
  refine wpAnyT_take (i := 11) (oi := _) (v := (.int .i64 0)) rfl (by kernel_rfl) (fun _ _ _ h => h) (by kernel_rfl) (fun wq hq => rfl) hS ?_
  try simp only [List.getElem_toArray, List.getElem_cons_succ, List.getElem_cons_zero, Act.put, List.setIfInBounds_toArray, List.set_cons_zero, List.set_cons_succ]
  refine wpAnyT_tail (by kernel_rfl) ?_
  try simp only [List.getElem_toArray, List.getElem_cons_succ, List.getElem_cons_zero, Act.put, List.setIfInBounds_toArray, List.set_cons_zero, List.set_cons_succ]
  have hz4 := H.out.1.1.below hS
  have hd4 := H.out.1.2.1.below hS
  go_wp2_with (first
    | (refine wpList_store_row rfl 71 (.tmp 2) (.tmp 14) rfl w.heap.size cC rfl rfl 71 zC hz4 (by rw [cC_size]; exact Tryz.infoS) (by rw [cC_size, zC_size]) cC_one ?_; have ho5 : Only (fun x => x = w.heap.size) w5 (w5.setRow w.heap.size cC) := only_setRowS (q := fun k => k = w.heap.size) _ _ _ rfl; have hz5 : Blk (w5.setRow w.heap.size cC) w.heap.size 71 cC := setRow_heap w5 w.heap.size zC cC 71 (0, 0) hz4; have hd5 := hd4.only ho5 (by omega))
    | (refine wpList_store_row rfl 79 (.tmp 3) (.tmp 15) rfl (w.heap.size + 1) (diD (.slice p5 7 c5)) rfl rfl 79 (diD (.slice none 0 0)) hd5 Tryz.infoDid rfl (diD_one _ rfl) ?_))
  have ho6 : Only (fun x => x = w.heap.size + 1) (w5.setRow w.heap.size cC) ((w5.setRow w.heap.size cC).setRow (w.heap.size + 1) (diD (.slice p5 7 c5))) := only_setRowS (q := fun k => k = w.heap.size + 1) _ _ _ rfl
  have hd6 : Blk ((w5.setRow w.heap.size cC).setRow (w.heap.size + 1) (diD (.slice p5 7 c5))) (w.heap.size + 1) 79 (diD (.slice p5 7 c5)) := setRow_heap _ (w.heap.size + 1) _ (diD (.slice p5 7 c5)) 79 (0, 0) hd5
  have hB4 := H.out.1.2.2.trans (hS.mono H.out.1.2.2.size)
  have hB5 := below_only hB4 hB4.size ho5 (fun k hk e => by omega)
  refine bodyPost_ret (v := .tuple #[.agg cC, .agg (diD (.slice p5 7 c5)), .int .i64 0]) (results_cct (P := Tryz.prog) 2 3 4 Tryz.results23 _ _ w.heap.size (w.heap.size + 1) _ _ cC (diD (.slice p5 7 c5)) _ _ (.int .i64 0) rfl rfl rfl (hz5.only ho6 (by omega)) hd6 Tryz.underlying71 rfl (by rw [cC_size]; exact Tryz.infoS) Tryz.underlying79 rfl Tryz.infoDid) rfl ⟨p5, c5, rfl, below_only hB5 hB5.size ho6 (fun k hk e => by omega)⟩
/-- What ends tells. -/
def EnsR (P0 : Nat → Prop) (h mc mh j r g n k : Nat) (L : List UInt8) (E : List (List UInt8)) (used : Nat) (f : Int → Option Nat) (nc : Nat) (had : List Int) (cnt cnts : Nat) (sl : Value) (c b : Nat) (w : World) (e : Ending) (w' : World) : Prop :=
  e = .returned (.int .i64 0) ∧ w.heap.size ≤ w'.heap.size ∧ ∃ P, HI w' P h mc mh j r g n (k + 1) (splice L ((2 + used) * 64) (secsF 1 E.length (5 :: be c 2))) (E ++ [5 :: be c 2]) (used + 1) (updF f (c : Int) none) nc had cnt cnts sl ∧ Blk w' b 74 coV ∧ (¬ P b ∧ b ≠ h ∧ b ≠ mc ∧ b ≠ mh ∧ b ≠ j ∧ b ≠ r ∧ b ≠ g) ∧ (∀ x, updF f (c : Int) none x ≠ some b) ∧ (∀ x, P x → (P0 x ∧ x < w.heap.size) ∨ w.heap.size ≤ x) ∧ Only (fun x => (P0 x ∧ x < w.heap.size) ∨ x = mc ∨ x = j ∨ x = r ∨ x = g) w w'
theorem entry_52 (c : Nat) (w : World) (hc : c < 65536) : Calls Tryz.prog 19 #[.int .i64 5, .int .i64 (c : Int), .int .i64 2] w (NewOB w (5 :: be c 2)) := entry_2 5 c w (by decide) hc
theorem HI.conDel {w w' : World} {P : Nat → Prop} {h mc mh j r g n k used nc cnt cnts : Nat} {L : List UInt8} {E : List (List UInt8)} {f : Int → Option Nat} {had : List Int} {sl : Value} {c : Int} {nc' : Nat} (hi : HI w P h mc mh j r g n k L E used f nc had cnt cnts sl) (hd : CnS w' mc (updF f c none) nc') (ho : Only (fun x => x = mc) w w') : HI w' P h mc mh j r g n k L E used (updF f c none) nc' had cnt cnts sl := by
  have hn := JI.not hi mc (.inr (.inl rfl))
  obtain ⟨⟨ch, h1⟩, h2, h3, h4, h5, h6, h7, h8⟩ := hi
  refine ⟨⟨ch, h1.only ho (by omega)⟩, hd, h3.only ho (by omega), h4.keep ho hn, fun x y hx => ?_, h6, h7, fun x y z hx hy => ?_⟩
  · unfold updF at hx
    by_cases e : x = c
    · rw [if_pos e] at hx
      cases hx
    · rw [if_neg e] at hx
      exact ⟨(h5 x y hx).1.only ho (h5 x y hx).2.2.2.1, (h5 x y hx).2⟩
  · unfold updF at hx hy
    by_cases e : x = c
    · rw [if_pos e] at hx
      cases hx
    · rw [if_neg e] at hx
      by_cases e2 : y = c
      · rw [if_pos e2] at hy
        cases hy
      · rw [if_neg e2] at hy
        exact h8 x y z hx hy
set_option maxHeartbeats 8000000 in
theorem ends_c (P : Nat → Prop) (h mc mh j r g n k used nc cnt cnts c b : Nat) (L : List UInt8) (E : List (List UInt8)) (f : Int → Option Nat) (had : List Int) (sl : Value) (w : World) (hi : HI w P h mc mh j r g n k L E used f (nc + 1) had cnt cnts sl)
    (h4 : 4 ≤ n) (hc : c ≤ 65535) (hf : f (c : Int) = some b) (hu : used + 1 ≤ areaF n) (hE : E.length ≤ 1000) (hk : k ≤ 1000) :
    Calls Tryz.prog 42 #[rp h, .int .i64 (c : Int)] w (EnsR P h mc mh j r g n k L E used f nc had cnt cnts sl c b w) := by
  have hbl : (5 :: be c 2).length = 3 := by rw [List.length_cons, be_length]
  have H := Lib.hid (And.intro hi.low (And.intro hf (And.intro hE (And.intro hk (And.intro hu hbl)))))
  clear hi hf hE hk hu hbl
  go_enter Tryz.func42, Tryz.ntmps42
  go_upto_region 2 with (first
    | (go_at_call 19; apply Calls.mono; (· (with_reducible refine entry_52 c _ ?_); (· omega)); rintro e w1 ⟨p1, n1, c1, rfl, h1, x1, b1⟩; have hn1 := h1.len; rw [H.out.2.2.2.2.2] at hn1; subst hn1; obtain ⟨G1, rfl, hog, hgl⟩ := h1.pos (by decide))
    | (go_at_call 18; apply Calls.mono; (· (with_reducible refine write_c (fun x => P x ∧ x < w.heap.size) h mc mh j r g n k used (nc + 1) cnt cnts 3 c1 L E f had sl (fun x => owB (some ⟨G1, 0, none⟩) 3 c1 x) ⟨G1, 0, none⟩ (5 :: be c 2) _ ?_ ?_ ?_ ?_ ?_ ?_ ?_ ?_ ?_ ?_ ?_ ?_); (· exact H.out.1.below b1); (· exact h4); (· exact h1.rd); (· intro x hx; have hx1 := x1 x hx; have := H.out.1.J.d.b.lt; have := H.out.1.J.d.s.lt; have := H.out.1.J.lt; omega); (· exact h1.form.1); (· exact H.out.2.2.2.2.2); (· decide); (· decide); (· decide); (· exact H.out.2.2.2.2.1); (· exact H.out.2.2.1); (· exact H.out.2.2.2.1)); rintro e w2 ⟨rfl, hi2, hO2⟩))
  rw [H.out.2.2.2.2.2] at hi2
  have hn1 : needF 3 = 1 := by decide
  rw [hn1] at hi2
  obtain ⟨g0, g68, g69, _, _, _, g73⟩ := hi2.g
  have hc2 := hi2.c
  have hfs : (f (c : Int)).isSome = true := by rw [H.out.2.1]; rfl
  have hco := hi2.co (c : Int) b H.out.2.1
  have hno : ∀ x, updF f (c : Int) none x ≠ some b := fun x hx => by
    unfold updF at hx
    by_cases e : x = (c : Int)
    · rw [if_pos e] at hx
      cases hx
    · rw [if_neg e] at hx
      exact e (hi2.ij x (c : Int) b hx H.out.2.1)
  have HI2 := Lib.hid (And.intro hi2 (And.intro hO2 (And.intro b1 hco)))
  clear hi2 hO2 b1 hco h1 x1 hog
  go_wp2_with (refine wpList_delete_cn _ rfl _ _ rfl mc nc f (c : Int) rfl rfl hc2 hfs (WalkArith.wf_i64 (by omega)) ?_; intro w3 hc3 hO3)
  go_ret
  have hco := HI2.out.2.2.2
  have hs1 := HI2.out.2.2.1.size
  have hs2 := HI2.out.2.1.size
  refine ⟨rfl, Nat.le_trans hs1 (Nat.le_trans hs2 hO3.size), _, HI2.out.1.conDel hc3 hO3, hco.1.only hO3 hco.2.2.2.1, hco.2, hno, fun x hx => (by rcases hx with hx | hx; (· exact .inl hx); (· exact .inr (Nat.le_trans hs1 hx))), ?_⟩
  refine ((Only.of_below HI2.out.2.2.1).then (HI2.out.2.1.mono (fun x _ e => ?_))).then (hO3.mono (fun x _ e => .inr (.inl e)))
  rcases e with e | e | e | e
  · exact .inl e
  · exact .inr (.inr (.inl e))
  · exact .inr (.inr (.inr (.inl e)))
  · exact .inr (.inr (.inr (.inr e)))
end Go.Proofs.YtolgaapiedbkfaaGreat
/-
  The contracts of host's act$1, note (of nothing) and step, where a connection is closed. Conditions: those of each theorem.
-/
namespace Go.Proofs.YtolgaapiedbkfaaGreat
open Go.RowKit Go.Kx Go.Maps
set_option linter.unusedVariables false
set_option linter.unusedSimpArgs false
set_option maxRecDepth 100000
theorem note_n (h : Nat) (w : World) : Calls Tryz.prog 100 #[rp h, .slice none 0 0] w fun e w' => e = .returned (.tuple #[]) ∧ w' = w := by
  go_enter Tryz.func100, Tryz.ntmps100
  go_wp2
  go_loopw [9] (fun v9 wr => v9 = .int .i64 0 ∧ wr = w) (fun _ _ => 0)
  case atStart => exact ⟨rfl, rfl⟩
  case round =>
    obtain ⟨rfl, hw⟩ := hrel
    subst hw
    go_wp2
    go_end0
    exact ⟨rfl, rfl⟩
set_option maxHeartbeats 4000000 in
theorem act1_c (b B5 B8 : Nat) (w : World) (hb : Blk w b 74 coV) (h5 : w.cell? ⟨B5, 0, none⟩ = some (.func (.func 23) #[] #[])) (h8 : w.cell? ⟨B8, 0, none⟩ = some (rp b)) (hl : B5 < w.heap.size ∧ B8 < w.heap.size) : Calls Tryz.prog 50 #[rp B5, rp B8] w (ClR w) := by
  have hz := run_zeroS
  have hz2 := run_zeroDid
  go_enter Tryz.func50, Tryz.ntmps50
  go_upto_region 1 with (fail)
  refine wp_world (TwoI w w.heap.size) (TwoI.first w) ?_
  intro W hW
  have d5 : W.cell? ⟨B5, 0, none⟩ = some (.func (.func 23) #[] #[]) := (only_cell (Only.of_below hW.2.2 : Only (fun _ => False) w W) hl.1 (fun h => h)).trans h5
  have d8 : W.cell? ⟨B8, 0, none⟩ = some (rp b) := (only_cell (Only.of_below hW.2.2 : Only (fun _ => False) w W) hl.2 (fun h => h)).trans h8
  have H := Lib.hid (And.intro hW (hb.below hW.2.2))
  clear hW hb h5 h8
  go_wp2_with (first
    | (go_at_call 23; apply Calls.mono; (· (with_reducible refine close1_c b _ ?_); (· exact H.out.2)); rintro e w4 ⟨p5, c5, rfl, b4⟩; have hz4 := H.out.1.1.below b4; have hd4 := H.out.1.2.1.below b4)
    | (refine wpList_store_row rfl 71 (.tmp 2) (.tmp 8) rfl w.heap.size cC rfl rfl 71 zC hz4 (by rw [cC_size]; exact Tryz.infoS) (by rw [cC_size, zC_size]) cC_one ?_; have ho5 : Only (fun x => x = w.heap.size) w4 (w4.setRow w.heap.size cC) := only_setRowS (q := fun k => k = w.heap.size) _ _ _ rfl; have hz5 : Blk (w4.setRow w.heap.size cC) w.heap.size 71 cC := setRow_heap w4 w.heap.size zC cC 71 (0, 0) hz4; have hd5 := hd4.only ho5 (by omega))
    | (refine wpList_store_row rfl 79 (.tmp 3) (.tmp 9) rfl (w.heap.size + 1) (diD (.slice p5 7 c5)) rfl rfl 79 (diD (.slice none 0 0)) hd5 Tryz.infoDid rfl (diD_one _ rfl) ?_))
  have ho6 : Only (fun x => x = w.heap.size + 1) (w4.setRow w.heap.size cC) ((w4.setRow w.heap.size cC).setRow (w.heap.size + 1) (diD (.slice p5 7 c5))) := only_setRowS (q := fun k => k = w.heap.size + 1) _ _ _ rfl
  have hd6 : Blk ((w4.setRow w.heap.size cC).setRow (w.heap.size + 1) (diD (.slice p5 7 c5))) (w.heap.size + 1) 79 (diD (.slice p5 7 c5)) := setRow_heap _ (w.heap.size + 1) _ (diD (.slice p5 7 c5)) 79 (0, 0) hd5
  have hB4 := H.out.1.2.2.trans (b4.mono H.out.1.2.2.size)
  have hB5 := below_only hB4 hB4.size ho5 (fun k hk e => by omega)
  refine bodyPost_ret (v := .tuple #[.agg cC, .agg (diD (.slice p5 7 c5)), .int .i64 0]) (results_cct (P := Tryz.prog) 2 3 4 Tryz.results50 _ _ w.heap.size (w.heap.size + 1) _ _ cC (diD (.slice p5 7 c5)) _ _ (.int .i64 0) rfl rfl rfl (hz5.only ho6 (by omega)) hd6 Tryz.underlying71 rfl (by rw [cC_size]; exact Tryz.infoS) Tryz.underlying79 rfl Tryz.infoDid) rfl ⟨p5, c5, rfl, below_only hB5 hB5.size ho6 (fun k hk e => by omega)⟩
set_option maxHeartbeats 8000000 in
theorem step_c (h c b B5 B8 : Nat) (w : World) (hb : Blk w b 74 coV) (h5 : w.cell? ⟨B5, 0, none⟩ = some (.func (.func 23) #[] #[])) (h8 : w.cell? ⟨B8, 0, none⟩ = some (rp b)) (hl : B5 < w.heap.size ∧ B8 < w.heap.size) : Calls Tryz.prog 49 #[rp h, .int .i64 (c : Int), rp b, .func (.func 50) #[] #[rp B5, rp B8]] w (ClR w) := by
  have hz := run_zeroS
  have hz2 := run_zeroDid
  go_enter Tryz.func49, Tryz.ntmps49
  go_wp2
  refine wp_world (TwoI w w.heap.size) (TwoI.first w) ?_
  intro W hW
  have H := Lib.hid hW
  clear hW
  have hbl := hb.lt
  go_loopw [11, 12, 13, 14, 15, 16] (fun v11 v12 v13 v14 v15 v16 wr => wr = W) (fun _ _ _ _ _ _ _ => 0)
  case atStart => rfl
  case round =>
    subst hrel
    have hbW := hb.below H.out.2.2
    have e5 : wr.cell? ⟨B5, 0, none⟩ = some (.func (.func 23) #[] #[]) := (only_cell (Only.of_below H.out.2.2 : Only (fun _ => False) w wr) hl.1 (fun h => h)).trans h5
    have e8 : wr.cell? ⟨B8, 0, none⟩ = some (rp b) := (only_cell (Only.of_below H.out.2.2 : Only (fun _ => False) w wr) hl.2 (fun h => h)).trans h8
    have hlW : B5 < wr.heap.size ∧ B8 < wr.heap.size := ⟨Nat.lt_of_lt_of_le hl.1 H.out.2.2.size, Nat.lt_of_lt_of_le hl.2 H.out.2.2.size⟩
    have HE := Lib.hid (And.intro hbW (And.intro e5 (And.intro e8 hlW)))
    clear hbW e5 e8 hlW h5 h8 hl hb hbl
    go_upto_region 2 with (first
      | (go_at_call 50; apply Calls.mono; (· (with_reducible refine act1_c b B5 B8 _ ?_ ?_ ?_ ?_); (· exact HE.out.1); (· exact HE.out.2.1); (· exact HE.out.2.2.1); (· exact HE.out.2.2.2)); rintro e w4 ⟨p5, c5, rfl, b4⟩; have hT4 := TwoI.first w4)
      | (refine wpList_store_row rfl 71 (.tmp 11) (.tmp 19) rfl w4.heap.size cC rfl rfl 71 zC hT4.1 (by rw [cC_size]; exact Tryz.infoS) (by rw [cC_size, zC_size]) cC_one ?_; have ho5 : Only (fun x => x = w4.heap.size) ((w4.alloc (.cells zC 71)).alloc (.cells (diD (.slice none 0 0)) 79)) (((w4.alloc (.cells zC 71)).alloc (.cells (diD (.slice none 0 0)) 79)).setRow w4.heap.size cC) := only_setRowS (q := fun k => k = w4.heap.size) _ _ _ rfl; have hz5 : Blk (((w4.alloc (.cells zC 71)).alloc (.cells (diD (.slice none 0 0)) 79)).setRow w4.heap.size cC) w4.heap.size 71 cC := setRow_heap _ w4.heap.size zC cC 71 (0, 0) hT4.1; have hd5 := hT4.2.1.only ho5 (by omega))
      | (refine wpList_store_row rfl 79 (.tmp 12) (.tmp 20) rfl (w4.heap.size + 1) (diD (.slice p5 7 c5)) rfl rfl 79 (diD (.slice none 0 0)) hd5 Tryz.infoDid rfl (diD_one _ rfl) ?_))
    have ho6 : Only (fun x => x = w4.heap.size + 1) (((w4.alloc (.cells zC 71)).alloc (.cells (diD (.slice none 0 0)) 79)).setRow w4.heap.size cC) ((((w4.alloc (.cells zC 71)).alloc (.cells (diD (.slice none 0 0)) 79)).setRow w4.heap.size cC).setRow (w4.heap.size + 1) (diD (.slice p5 7 c5))) := only_setRowS (q := fun k => k = w4.heap.size + 1) _ _ _ rfl
    have hd6 : Blk ((((w4.alloc (.cells zC 71)).alloc (.cells (diD (.slice none 0 0)) 79)).setRow w4.heap.size cC).setRow (w4.heap.size + 1) (diD (.slice p5 7 c5))) (w4.heap.size + 1) 79 (diD (.slice p5 7 c5)) := setRow_heap _ (w4.heap.size + 1) _ (diD (.slice p5 7 c5)) 79 (0, 0) hd5
    have hB4 := hT4.2.2
    have hB5 := below_only hB4 hB4.size ho5 (fun k hk e => by omega)
    have hB6 := below_only hB5 hB5.size ho6 (fun k hk e => by omega)
    have hz6 := hz5.only ho6 (by omega)
    have hBz := b4.trans (hB6.mono b4.size)
    have hs4 := b4.size
    obtain ⟨S1, hS1⟩ : ∃ S1, S1 = w4.heap.size := ⟨_, rfl⟩
    have hlr := H.out.2.1.lt
    refine wp_world (fun W3 => Blk W3 S1 71 cC ∧ Blk W3 (S1 + 1) 79 (diD (.slice p5 7 c5)) ∧ Blk W3 w.heap.size 71 zC ∧ Blk W3 (w.heap.size + 1) 79 (diD (.slice none 0 0)) ∧ Below w.heap.size w W3) ?_ ?_
    · rw [hS1]
      exact ⟨hz6, hd6, H.out.1.below hBz, H.out.2.1.below hBz, H.out.2.2.trans (hBz.mono H.out.2.2.size)⟩
    intro W3 hW3
    have H3 := Lib.hid hW3
    have hlt : w.heap.size + 1 < S1 := by omega
    clear hW3 ho5 ho6 hz5 hd5 hd6 hB4 hB5 hB6 hz6 hBz hT4 b4
    rw [← hS1]
    clear hS1
    have d1 : W3.cell? ⟨S1 + 1, 1, none⟩ = some (.slice none 0 0) := (H3.out.2.1.c 1).trans rfl
    go_upto_region 4 with (go_at_call 100; apply Calls.mono; (· (with_reducible exact note_n h _)); rintro e w5 ⟨rfl, hw5⟩; rw [hw5]; clear hw5 w5)
    refine wp_region_tail (S := fun wx => Blk wx S1 71 cC ∧ Blk wx (S1 + 1) 79 (diD (.slice p5 7 c5)) ∧ Below w.heap.size w wx) (n := 5) (by kernel_rfl) (by decide) ?_
    try simp only [List.drop_succ_cons, List.drop_zero]
    obtain ⟨u0, hu0⟩ : ∃ u, u = W3.drew := ⟨_, rfl⟩
    have hb0 : Below W3.heap.size W3 u0 := by rw [hu0]; exact (Below.refl _ _).drew
    have hS : Blk u0 S1 71 cC ∧ Blk u0 (S1 + 1) 79 (diD (.slice p5 7 c5)) ∧ Below w.heap.size w u0 := ⟨H3.out.1.below hb0, H3.out.2.1.below hb0, H3.out.2.2.2.2.trans (hb0.mono H3.out.2.2.2.2.size)⟩
    have hz0 := H3.out.2.2.1.below hb0
    have hd0 := H3.out.2.2.2.1.below hb0
    rw [← hu0]
    clear hu0 hb0 d1
    try simp only [Act.put]
    refine wpAnyT_take (i := 0) (oi := _) (v := (.agg cC)) rfl (by kernel_rfl) (fun _ _ _ h => h) (by kernel_rfl) (fun wq hq => ex_load_mid 71 (.tmp 11) rfl S1 0 rfl cC _ (by have h := Blk.range hq.1; exact h) Tryz.underlying71 rfl (by rw [cC_size]; exact Tryz.infoS)) hS ?_
    try simp only [List.getElem_toArray, List.getElem_cons_succ, List.getElem_cons_zero, Act.put, List.setIfInBounds_toArray, List.set_cons_zero, List.set_cons_succ]
    refine wpAnyT_take (i := 1) (oi := _) (v := (.agg (diD (.slice p5 7 c5)))) rfl (by kernel_rfl) (fun _ _ _ h => h) (by kernel_rfl) (fun wq hq => ex_load_mid 79 (.tmp 12) rfl (S1 + 1) 0 rfl (diD (.slice p5 7 c5)) _ (by have h := Blk.range hq.2.1; exact h) Tryz.underlying79 rfl Tryz.infoDid) hS ?_
    try simp only [List.getElem_toArray, List.getElem_cons_succ, List.getElem_cons_zero, Act.put, List.setIfInBounds_toArray, List.set_cons_zero, List.set_cons_succ]
    refine wpAnyT_take (i := 2) (oi := _) (v := (.int .i64 0)) rfl (by kernel_rfl) (fun _ _ _ h => h) (by kernel_rfl) (fun wq hq => rfl) hS ?_
    try simp only [List.getElem_toArray, List.getElem_cons_succ, List.getElem_cons_zero, Act.put, List.setIfInBounds_toArray, List.set_cons_zero, List.set_cons_succ]
    refine wpAnyT_ready (rs := [3]) (by kernel_rfl) (by simp) ?_
    refine AllReadyT.cons rfl (by decide) (fun K hC => ?_) AllReadyT.nil
    rw [if_pos (by kernel_rfl)]
    refine wp_store_row 71 (.tmp 8) (.tmp 28) rfl w.heap.size cC rfl rfl 71 zC hz0 (by rw [cC_size]; exact Tryz.infoS) (by rw [cC_size, zC_size]) cC_one ?_
    have ho1 : Only (fun x => x = w.heap.size) u0 (u0.setRow w.heap.size cC) := only_setRowS (q := fun k => k = w.heap.size) _ _ _ rfl
    have hz1 : Blk (u0.setRow w.heap.size cC) w.heap.size 71 cC := setRow_heap u0 w.heap.size zC cC 71 (0, 0) hz0
    have hd1 := hd0.only ho1 (by omega)
    have hS1' : Blk (u0.setRow w.heap.size cC) S1 71 cC ∧ Blk (u0.setRow w.heap.size cC) (S1 + 1) 79 (diD (.slice p5 7 c5)) ∧ Below w.heap.size w (u0.setRow w.heap.size cC) := ⟨hS.1.only ho1 (by omega), hS.2.1.only ho1 (by omega), below_only hS.2.2 hS.2.2.size ho1 (fun k hk e => by omega)⟩
    refine hC.out _ _ hS1' ?_
    clear hC K ho1 hS hz0 hd0
    try simp only [List.getElem_toArray, List.getElem_cons_succ, List.getElem_cons_zero, Act.put, List.setIfInBounds_toArray, List.set_cons_zero, List.set_cons_succ]
    generalize u0.setRow w.heap.size cC = u1 at *
    refine wpAnyT_ready (rs := [4]) (by kernel_rfl) (by simp) ?_
    refine AllReadyT.cons rfl (by decide) (fun K hC => ?_) AllReadyT.nil
    rw [if_pos (by kernel_rfl)]
    refine wp_store_row 79 (.tmp 9) (.tmp 29) rfl (w.heap.size + 1) (diD (.slice p5 7 c5)) rfl rfl 79 (diD (.slice none 0 0)) hd1 Tryz.infoDid rfl (diD_one _ rfl) ?_
    have ho2 : Only (fun x => x = w.heap.size + 1) u1 (u1.setRow (w.heap.size + 1) (diD (.slice p5 7 c5))) := only_setRowS (q := fun k => k = w.heap.size + 1) _ _ _ rfl
    have hd2 : Blk (u1.setRow (w.heap.size + 1) (diD (.slice p5 7 c5))) (w.heap.size + 1) 79 (diD (.slice p5 7 c5)) := setRow_heap _ (w.heap.size + 1) _ (diD (.slice p5 7 c5)) 79 (0, 0) hd1
    have hz2' := hz1.only ho2 (by omega)
    have hS2 : Blk (u1.setRow (w.heap.size + 1) (diD (.slice p5 7 c5))) S1 71 cC ∧ Blk (u1.setRow (w.heap.size + 1) (diD (.slice p5 7 c5))) (S1 + 1) 79 (diD (.slice p5 7 c5)) ∧ Below w.heap.size w (u1.setRow (w.heap.size + 1) (diD (.slice p5 7 c5))) := ⟨hS1'.1.only ho2 (by omega), hS1'.2.1.only ho2 (by omega), below_only hS1'.2.2 hS1'.2.2.size ho2 (fun k hk e => by omega)⟩
    refine hC.out _ _ hS2 ?_
    clear hC K ho2 hS1' hz1 hd1
    try simp only [List.getElem_toArray, List.getElem_cons_succ, List.getElem_cons_zero, Act.put, List.setIfInBounds_toArray, List.set_cons_zero, List.set_cons_succ]
    generalize u1.setRow (w.heap.size + 1) (diD (.slice p5 7 c5)) = u2 at *
    refine wpAnyT_tail (by kernel_rfl) ?_
    try simp only [List.getElem_toArray, List.getElem_cons_succ, List.getElem_cons_zero, Act.put, List.setIfInBounds_toArray, List.set_cons_zero, List.set_cons_succ]
    go_wp2
    refine bodyPost_ret (v := .tuple #[.agg cC, .agg (diD (.slice p5 7 c5)), .int .i64 0]) (results_cct (P := Tryz.prog) 8 9 10 Tryz.results49 _ _ w.heap.size (w.heap.size + 1) _ _ cC (diD (.slice p5 7 c5)) _ _ (.int .i64 0) rfl rfl rfl hz2' hd2 Tryz.underlying71 rfl (by rw [cC_size]; exact Tryz.infoS) Tryz.underlying79 rfl Tryz.infoDid) rfl ⟨p5, c5, rfl, hS2.2.2⟩
end Go.Proofs.YtolgaapiedbkfaaGreat
/-
  The contracts of host's done, act and Close, where a connection is closed, and where there is none. Conditions: those of each theorem.
-/
namespace Go.Proofs.YtolgaapiedbkfaaGreat
open Go.RowKit Go.Kx Go.Maps
set_option linter.unusedVariables false
set_option linter.unusedSimpArgs false
set_option maxRecDepth 100000
theorem only_setCellsH (b : Nat) : ∀ (vs : List Value) (o : Nat) (w : World), Only (fun x => x = b) w (w.setCells b o vs)
  | [], o, w => Only.refl _ _
  | v :: vs, o, w => ((Only.refl (fun x => x = b) w).setCell ⟨b, o, none⟩ v (.inl rfl)).then (only_setCellsH b vs (o + 1) _)
theorem there_blk {w : World} {b t : Nat} {C : Array Value} (h : Blk w b t C) (n : Nat) (hn : n ≤ C.size) : w.there b 0 n := fun j hj => by
  have h1 := h.c (0 + j)
  have h2 := h.fr (0 + j)
  refine ⟨?_, h2⟩
  rw [h1, Nat.zero_add, Array.getElem?_eq_getElem (by omega)]
  rfl
theorem coV_size : coV.size = 237 := by simp [coV, nC_size]
/-- What done tells: the connection has ended. -/
def DonR (h mc mh j r g n k : Nat) (L : List UInt8) (E : List (List UInt8)) (used : Nat) (f : Int → Option Nat) (nc : Nat) (had : List Int) (cnt cnts : Nat) (sl : Value) (c : Nat) (P0 : Nat → Prop) (w w' : World) : Prop :=
  ∃ P, (∀ x, P x → (P0 x ∧ x < w.heap.size) ∨ w.heap.size ≤ x) ∧ HI w' P h mc mh j r g n (k + 1) (splice L ((2 + used) * 64) (secsF 1 E.length (5 :: be c 2))) (E ++ [5 :: be c 2]) (used + 1) (updF f (c : Int) none) nc had cnt cnts sl
set_option maxHeartbeats 8000000 in
theorem hdone_c (P : Nat → Prop) (h mc mh j r g n k used nc cnt cnts c b : Nat) (L : List UInt8) (E : List (List UInt8)) (f : Int → Option Nat) (had : List Int) (sl : Value) (w : World) (hi : HI w P h mc mh j r g n k L E used f (nc + 1) had cnt cnts sl)
    (h4 : 4 ≤ n) (hc : c ≤ 65535) (hf : f (c : Int) = some b) (hu : used + 1 ≤ areaF n) (hE : E.length ≤ 1000) (hk : k ≤ 1000) :
    Calls Tryz.prog 51 #[rp h, .int .i64 (c : Int), rp b, .agg cC] w fun e w' => e = .returned (.int .i64 0) ∧ DonR h mc mh j r g n k L E used f nc had cnt cnts sl c P w w' ∧ Only (fun x => (P x ∧ x < w.heap.size) ∨ x = b ∨ x = mc ∨ x = j ∨ x = r ∨ x = g) w w' := by
  have H := Lib.hid (And.intro hi (And.intro hf (And.intro hE (And.intro hk hu))))
  have e0 : cC[0]? = some (.int .i64 4) := by unfold cC; rw [Array.getElem?_setIfInBounds_ne (by decide), Array.getElem?_setIfInBounds_self]; simp [nC_size]
  have hw := hi.J.lt
  clear hi hf hE hk hu
  go_enter Tryz.func51, Tryz.ntmps51
  go_upto_region 1 with (fail)
  refine wp_world (fun W => Blk W w.heap.size 71 cC ∧ Below w.heap.size w W) ?_ ?_
  · exact ⟨Blk.new w _ _, (Below.refl _ w).alloc (Nat.le_refl _) _⟩
  intro W hW
  have d0 : W.cell? ⟨w.heap.size, 0, none⟩ = some (.int .i64 4) := (hW.1.c 0).trans e0
  have HW := Lib.hid hW
  clear hW
  go_upto_region 3 with (go_at_call 42; apply Calls.mono; (· (with_reducible refine ends_c (fun x => P x ∧ x < w.heap.size) h mc mh j r g n k used nc cnt cnts c b L E f had sl _ ?_ ?_ ?_ ?_ ?_ ?_ ?_); (· exact H.out.1.low.below HW.out.2); (· exact h4); (· exact hc); (· exact H.out.2.1); (· exact H.out.2.2.2.2); (· exact H.out.2.2.1); (· exact H.out.2.2.2.1)); rintro e w2 ⟨rfl, hsz, P2, hi2, hb2, hfr2, hno2, hP2, hO2⟩)
  have hsW := HW.out.2.size
  have hBl := HW.out.1.lt
  have hmcl := H.out.1.c.lt
  have hrl := H.out.1.J.d.b.lt
  have hgl := H.out.1.J.d.s.lt
  have hB2 := HW.out.1.only hO2 (by intro e; rcases e with e | e | e | e | e; (· have := e.1.2; omega); all_goals omega)
  have ht := there_blk hb2 cC.size (by rw [cC_size, coV_size]; decide)
  have hic : (Tryz.prog.info? 71).map (·.size) = some cC.size := by rw [cC_size]; exact Tryz.infoS
  clear d0
  go_wp2_with (first
    | (refine wpList_load_row rfl 71 (.tmp 7) rfl w.heap.size rfl _ _ (0, 0) _ hB2 Tryz.underlying71 rfl hic ?_)
    | (refine wpList_store_mid rfl 71 (.tmp 22) (.tmp 20) rfl b 0 cC rfl rfl ht hic cC_one ?_))
  go_ret
  have hO3 := only_setCellsH b cC.toList 0 w2
  have hn := hfr2
  refine ⟨rfl, ⟨P2, fun x hx => (by rcases hP2 x hx with e | e; (· exact .inl e.1); (· exact .inr (Nat.le_trans hsW e))), ?_⟩, ?_⟩
  · obtain ⟨⟨ch, h1⟩, h2, h3, h4', h5, h6, h7, h8⟩ := hi2
    refine ⟨⟨ch, h1.only hO3 (by omega)⟩, h2.only hO3 (by omega), h3.only hO3 (by omega), h4'.keep hO3 (fun y hy e => ?_), fun x y hx => ⟨(h5 x y hx).1.only hO3 ?_, (h5 x y hx).2⟩, h6, h7, h8⟩
    · subst e
      rcases hy with hy | hy
      · exact hn.1 hy
      · omega
    · intro e; subst e; exact hno2 x hx
  · refine ((Only.of_below HW.out.2).then (hO2.trans (Only.refl (fun _ => False) _) (fun x e => ?_) (fun _ _ h => h.elim))).then (hO3.mono (fun x _ e => .inr (.inl e)))
    rcases e with e | e
    · exact .inl e.1
    · exact .inr (.inr e)
end Go.Proofs.YtolgaapiedbkfaaGreat
/-
  The contracts of host's act and Close, where a connection is closed. Conditions: those of each theorem.
-/
namespace Go.Proofs.YtolgaapiedbkfaaGreat
open Go.RowKit Go.Kx Go.Maps
set_option linter.unusedVariables false
set_option linter.unusedSimpArgs false
set_option maxRecDepth 100000
/-- What came of a step: this is sent. -/
def ouV (v : Value) : Array Value := #[v, .slice none 0 0]
theorem Tryz.infoOu : (Tryz.prog.info? 40).map (·.size) = some 2 := by kernel_rfl
theorem Tryz.builtOu (v : Value) : Tryz.prog.built 40 [(0, v)] = some (ouV v) ∨ True := .inr trivial
theorem ouV_one (v : Value) (hv : v.oneCell' = true) : (ouV v).all (·.oneCell') = true := by
  have h2 : (Value.slice none 0 0).oneCell' = true := rfl
  simp [ouV, hv, h2]
theorem results_ct1 {P : Program} {fn : Func} (p u : Tmp) {ty : TypeId} (h : fn.results = #[.cell p ty, .tmp u]) (tmps : Array Value) (w : World) (g : Nat) (t : TypeId) (cs : Array Value) (d : TypeDesc) (U : Value)
    (hp : tmps.getD p undef = .pointer (some ⟨g, 0, none⟩)) (hU : tmps.getD u undef = U) (hg : Blk w g t cs)
    (hu : P.underlying ty = some d) (hd : (match d with | .struct _ | .array _ _ => true | _ => false) = true) (hi : (P.info? ty).map (·.size) = some cs.size) :
    (results fn tmps).run P w = .ok (.tuple #[.agg cs, U]) w := results_ct p u h tmps w g t cs d U hp hU hg hu hd hi
theorem HI.keep {w w' : World} {P q : Nat → Prop} {h mc mh j r g n k used nc cnt cnts : Nat} {L : List UInt8} {E : List (List UInt8)} {f : Int → Option Nat} {had : List Int} {sl : Value} (hi : HI w P h mc mh j r g n k L E used f nc had cnt cnts sl) (ho : Only q w w') (hq : ∀ x, P x ∨ x = h ∨ x = mc ∨ x = mh ∨ x = j ∨ x = r ∨ x = g → ¬ q x) (hco : ∀ x y, f x = some y → ¬ q y) : HI w' P h mc mh j r g n k L E used f nc had cnt cnts sl := by
  obtain ⟨⟨ch, h1⟩, h2, h3, h4, h5, h6, h7, h8⟩ := hi
  exact ⟨⟨ch, h1.only ho (hq h (.inr (.inl rfl)))⟩, h2.only ho (hq mc (.inr (.inr (.inl rfl)))), h3.only ho (hq mh (.inr (.inr (.inr (.inl rfl))))), h4.keep ho (fun x hx => hq x (by rcases hx with e | e; (· exact .inl e); (· exact .inr (.inr (.inr (.inr e)))))), fun x y hx => ⟨(h5 x y hx).1.only ho (hco x y hx), (h5 x y hx).2⟩, h6, h7, h8⟩
/-- What act and Close tell. -/
def ActR (P0 : Nat → Prop) (w : World) (b h mc mh j r g n k : Nat) (L : List UInt8) (E : List (List UInt8)) (used : Nat) (f : Int → Option Nat) (nc : Nat) (had : List Int) (cnt cnts : Nat) (sl : Value) (c : Nat) (e : Ending) (w' : World) : Prop :=
  ∃ p cp, e = .returned (.tuple #[.agg (ouV (.slice p 7 cp)), .int .i64 0]) ∧ ∃ P, (∀ x, P x → (P0 x ∧ x < w.heap.size) ∨ w.heap.size ≤ x) ∧ Only (fun x => (P0 x ∧ x < w.heap.size) ∨ x = b ∨ x = mc ∨ x = j ∨ x = r ∨ x = g) w w' ∧ HI w' P h mc mh j r g n (k + 1) (splice L ((2 + used) * 64) (secsF 1 E.length (5 :: be c 2))) (E ++ [5 :: be c 2]) (used + 1) (updF f (c : Int) none) nc had cnt cnts sl
set_option maxHeartbeats 8000000 in
theorem act_c (P : Nat → Prop) (h mc mh j r g n k used nc cnt cnts c b : Nat) (L : List UInt8) (E : List (List UInt8)) (f : Int → Option Nat) (had : List Int) (sl : Value) (w : World) (hi : HI w P h mc mh j r g n k L E used f (nc + 1) had cnt cnts sl)
    (h4 : 4 ≤ n) (hc : c ≤ 65535) (hf : f (c : Int) = some b) (hu : used + 1 ≤ areaF n) (hE : E.length ≤ 1000) (hk : k ≤ 1000) :
    Calls Tryz.prog 22 #[rp h, .int .i64 (c : Int), .func (.func 23) #[] #[]] w (ActR P w b h mc mh j r g n k L E used f nc had cnt cnts sl c) := by
  have hz := run_zeroS
  have hz2 := run_zeroDid
  have H := Lib.hid (And.intro hi.low (And.intro hf (And.intro hE (And.intro hk hu))))
  clear hi hf hE hk hu
  go_enter Tryz.func22, Tryz.ntmps22
  go_upto_region 1 with (fail)
  refine wp_world (fun W => Blk W w.heap.size 82 #[.func (.func 23) #[] #[]] ∧ Blk W (w.heap.size + 1) 40 (ouV (.slice none 0 0)) ∧ Below w.heap.size w W ∧ W.heap.size = w.heap.size + 2) ?_ ?_
  · have b2 := Blk.new (w.alloc (.cells #[.func (.func 23) #[] #[]] 82)) 40 (ouV (.slice none 0 0))
    rw [World.size_alloc] at b2
    exact ⟨(Blk.new w _ _).below ((Below.refl _ _).alloc (Nat.le_refl _) _), b2, ((Below.refl _ w).alloc (Nat.le_refl _) _).alloc (by simp) _, by simp⟩
  intro W hW
  have HW := Lib.hid hW
  clear hW
  go_upto_region 2 with (go_at_call 27; apply Calls.mono; (· (with_reducible refine hmay_yes h c b mc f (nc + 1) _ ?_ ?_ ?_ ?_ ?_); (· exact (H.out.1.below HW.out.2.2.1).g.2.2.2.2.2.2); (· exact (H.out.1.below HW.out.2.2.1).g.2.1); (· exact (H.out.1.below HW.out.2.2.1).c); (· omega); (· exact H.out.2.1)); rintro e w1 ⟨rfl, hw1⟩; rw [hw1]; clear hw1 w1)
  have hsW := HW.out.2.2.2
  refine wp_world (fun W4 => Blk W4 w.heap.size 82 #[.func (.func 23) #[] #[]] ∧ Blk W4 (w.heap.size + 1) 40 (ouV (.slice none 0 0)) ∧ Blk W4 W.heap.size 67 #[rp b] ∧ Below w.heap.size w W4) ?_ ?_
  · have b1 : Below W.heap.size W (W.alloc (.cells #[rp b] 67)) := (Below.refl _ W).alloc (Nat.le_refl _) _
    exact ⟨HW.out.1.below b1, HW.out.2.1.below b1, Blk.new W 67 #[rp b], HW.out.2.2.1.trans (b1.mono HW.out.2.2.1.size)⟩
  intro W4 hW4
  have H4 := Lib.hid hW4
  obtain ⟨B8, hB8⟩ : ∃ B8, B8 = W.heap.size := ⟨_, rfl⟩
  rw [← hB8] at hW4 ⊢
  have d8 : W4.cell? ⟨B8, 0, none⟩ = some (rp b) := hW4.2.2.1.c 0
  have d5 : W4.cell? ⟨w.heap.size, 0, none⟩ = some (.func (.func 23) #[] #[]) := hW4.1.c 0
  have hcoW := (H.out.1.co (c : Int) b H.out.2.1).1.below hW4.2.2.2
  have HE := Lib.hid (And.intro d8 (And.intro d5 (And.intro hcoW (And.intro hW4.1.lt hW4.2.2.1.lt))))
  clear hW4 d5 hcoW
  clear d8
  have d8 : W4.cell? ⟨B8, 0, none⟩ = some (rp b) := HE.out.1
  have HB8 := Lib.hid (show B8 = W.heap.size from hB8)
  have HsW := Lib.hid hsW
  clear hB8 hsW
  go_upto_region 5 with (first
    | (go_at_call 49; apply Calls.mono; (· (with_reducible refine step_c h c b w.heap.size B8 _ ?_ ?_ ?_ ?_); (· exact HE.out.2.2.1); (· exact HE.out.2.1); (· exact HE.out.1); (· exact ⟨HE.out.2.2.2.1, HE.out.2.2.2.2⟩)); rintro e w5 ⟨p5, c5, rfl, b5⟩; have hT4 := TwoI.first w5)
    | (refine wpList_store_row rfl 71 (.tmp 10) (.tmp 29) rfl w5.heap.size cC rfl rfl 71 zC hT4.1 (by rw [cC_size]; exact Tryz.infoS) (by rw [cC_size, zC_size]) cC_one ?_; have ho5 : Only (fun x => x = w5.heap.size) ((w5.alloc (.cells zC 71)).alloc (.cells (diD (.slice none 0 0)) 79)) (((w5.alloc (.cells zC 71)).alloc (.cells (diD (.slice none 0 0)) 79)).setRow w5.heap.size cC) := only_setRowS (q := fun k => k = w5.heap.size) _ _ _ rfl; have hz5 : Blk (((w5.alloc (.cells zC 71)).alloc (.cells (diD (.slice none 0 0)) 79)).setRow w5.heap.size cC) w5.heap.size 71 cC := setRow_heap _ w5.heap.size zC cC 71 (0, 0) hT4.1; have hd5 := hT4.2.1.only ho5 (by omega))
    | (refine wpList_store_row rfl 79 (.tmp 11) (.tmp 30) rfl (w5.heap.size + 1) (diD (.slice p5 7 c5)) rfl rfl 79 (diD (.slice none 0 0)) hd5 Tryz.infoDid rfl (diD_one _ rfl) ?_))
  have ho6 : Only (fun x => x = w5.heap.size + 1) (((w5.alloc (.cells zC 71)).alloc (.cells (diD (.slice none 0 0)) 79)).setRow w5.heap.size cC) ((((w5.alloc (.cells zC 71)).alloc (.cells (diD (.slice none 0 0)) 79)).setRow w5.heap.size cC).setRow (w5.heap.size + 1) (diD (.slice p5 7 c5))) := only_setRowS (q := fun k => k = w5.heap.size + 1) _ _ _ rfl
  have hd6 : Blk ((((w5.alloc (.cells zC 71)).alloc (.cells (diD (.slice none 0 0)) 79)).setRow w5.heap.size cC).setRow (w5.heap.size + 1) (diD (.slice p5 7 c5))) (w5.heap.size + 1) 79 (diD (.slice p5 7 c5)) := setRow_heap _ (w5.heap.size + 1) _ (diD (.slice p5 7 c5)) 79 (0, 0) hd5
  have hB4 := hT4.2.2
  have hB5 := below_only hB4 hB4.size ho5 (fun k hk e => by omega)
  have hB6 := below_only hB5 hB5.size ho6 (fun k hk e => by omega)
  have hz6 := hz5.only ho6 (by omega)
  have hBz := b5.trans (hB6.mono b5.size)
  have hs4 := b5.size
  have hs5 := H4.out.2.2.1.lt
  have hB8w := HB8.out
  have hsW := HsW.out
  obtain ⟨S1, hS1⟩ : ∃ S1, S1 = w5.heap.size := ⟨_, rfl⟩
  refine wp_world (fun W7 => Blk W7 S1 71 cC ∧ Blk W7 (S1 + 1) 79 (diD (.slice p5 7 c5)) ∧ Blk W7 (w.heap.size + 1) 40 (ouV (.slice none 0 0)) ∧ Blk W7 B8 67 #[rp b] ∧ Below w.heap.size w W7) ?_ ?_
  · rw [hS1, hB8w]
    exact ⟨hz6, hd6, H4.out.2.1.below hBz, H4.out.2.2.1.below hBz, H4.out.2.2.2.trans (hBz.mono H4.out.2.2.2.size)⟩
  intro W7 hW7
  have H7 := Lib.hid hW7
  have hlt : B8 < S1 := by omega
  clear hB8w hsW
  clear d8
  have d9 : W7.cell? ⟨B8, 0, none⟩ = some (.pointer (some ⟨b, 0, none⟩)) := hW7.2.2.2.1.c 0
  clear hW7 ho5 ho6 hz5 hd5 hd6 hB4 hB5 hB6 hz6 hBz hT4 b5 hs4 hs5
  rw [← hS1]
  clear hS1
  have hic : (Tryz.prog.info? 71).map (·.size) = some cC.size := by rw [cC_size]; exact Tryz.infoS
  have hltw : w.heap.size + 1 < B8 := by have := HB8.out; have := HsW.out; omega
  clear HB8 HsW
  have e0 : (diD (.slice p5 7 c5))[0]? = some (.slice p5 7 c5) := rfl
  go_upto_region 8 with (first
    | (refine wpList_load_row rfl 71 (.tmp 10) rfl S1 rfl _ _ (0, 0) _ H7.out.1 Tryz.underlying71 rfl hic ?_)
    | (go_at_call 51; apply Calls.mono; (· (with_reducible refine hdone_c (fun x => P x ∧ x < w.heap.size) h mc mh j r g n k used nc cnt cnts c b L E f had sl _ ?_ ?_ ?_ ?_ ?_ ?_ ?_); (· exact H.out.1.below H7.out.2.2.2.2); (· exact h4); (· exact hc); (· exact H.out.2.1); (· exact H.out.2.2.2.2); (· exact H.out.2.2.1); (· exact H.out.2.2.2.1)); rintro e w8 ⟨rfl, ⟨P2, hP2, hi8⟩, hO8⟩))
  have hmcl := H.out.1.c.lt
  have hrl := H.out.1.J.d.b.lt
  have hgl := H.out.1.J.d.s.lt
  have hjl := H.out.1.J.lt
  have hmhl := H.out.1.d.lt
  have hhl : h < w.heap.size := by obtain ⟨ch, hb⟩ := H.out.1.b; exact hb.lt
  have hbl := (H.out.1.co (c : Int) b H.out.2.1).1.lt
  have hnot : ∀ x, w.heap.size ≤ x → ¬ (((P x ∧ x < w.heap.size) ∧ x < W7.heap.size) ∨ x = b ∨ x = mc ∨ x = j ∨ x = r ∨ x = g) := fun x hx e => by
    rcases e with e | e | e | e | e | e
    · have := e.1.2; omega
    all_goals omega
  have hd8 := H7.out.2.1.only hO8 (hnot _ (by omega))
  have ho8 := H7.out.2.2.1.only hO8 (hnot _ (by omega))
  have hol := H7.out.2.2.1.lt
  have d11 : w8.cell? ⟨S1 + 1, 0, none⟩ = some (.slice p5 7 c5) := (hd8.c 0).trans e0
  clear d9
  go_wp2_with (refine wpList_store_row rfl 40 (.tmp 6) (.tmp 51) rfl (w.heap.size + 1) (ouV (.slice p5 7 c5)) rfl rfl 40 (ouV (.slice none 0 0)) ho8 Tryz.infoOu rfl (ouV_one _ rfl) ?_)
  have ho9 : Only (fun x => x = w.heap.size + 1) w8 (w8.setRow (w.heap.size + 1) (ouV (.slice p5 7 c5))) := only_setRowS (q := fun k => k = w.heap.size + 1) _ _ _ rfl
  have hb9 : Blk (w8.setRow (w.heap.size + 1) (ouV (.slice p5 7 c5))) (w.heap.size + 1) 40 (ouV (.slice p5 7 c5)) := setRow_heap _ (w.heap.size + 1) _ (ouV (.slice p5 7 c5)) 40 (0, 0) ho8
  refine bodyPost_ret (v := .tuple #[.agg (ouV (.slice p5 7 c5)), .int .i64 0]) (results_ct (P := Tryz.prog) 6 7 Tryz.results22 _ _ (w.heap.size + 1) _ (ouV (.slice p5 7 c5)) _ (.int .i64 0) rfl rfl hb9 Tryz.underlying40 rfl Tryz.infoOu) rfl ⟨p5, c5, rfl, P2, fun x hx => ?_, ?_, hi8.keep ho9 (fun x hx e => ?_) (fun x y hx e => ?_)⟩
  · rcases hP2 x hx with e | e
    · exact .inl e.1
    · exact .inr (Nat.le_trans H7.out.2.2.2.2.size e)
  · refine ((Only.of_below H7.out.2.2.2.2).then (hO8.mono (fun x _ e => ?_))).trans ho9 (fun x e => e) (fun x hx e => ?_)
    · rcases e with e | e
      · exact .inl e.1
      · exact .inr e
    · omega
  · subst e
    rcases hx with hx | hx | hx | hx | hx | hx | hx
    · rcases hP2 _ hx with e | e
      · have := e.1.2; omega
      · omega
    all_goals omega
  · subst e
    unfold updF at hx
    by_cases e2 : x = (c : Int)
    · rw [if_pos e2] at hx; cases hx
    · rw [if_neg e2] at hx
      have := (H.out.1.co x _ hx).1.lt
      omega
set_option maxHeartbeats 8000000 in
theorem hclose_c (P : Nat → Prop) (h mc mh j r g n k used nc cnt cnts c b : Nat) (L : List UInt8) (E : List (List UInt8)) (f : Int → Option Nat) (had : List Int) (sl : Value) (w : World) (hi : HI w P h mc mh j r g n k L E used f (nc + 1) had cnt cnts sl)
    (h4 : 4 ≤ n) (hc : c ≤ 65535) (hf : f (c : Int) = some b) (hu : used + 1 ≤ areaF n) (hE : E.length ≤ 1000) (hk : k ≤ 1000) :
    Calls Tryz.prog 11 #[rp h, .int .i64 (c : Int)] w (ActR P w b h mc mh j r g n k L E used f nc had cnt cnts sl c) := by
  have H := Lib.hid (And.intro hi.low (And.intro hf (And.intro hE (And.intro hk hu))))
  clear hi hf hE hk hu
  go_enter Tryz.func11, Tryz.ntmps11
  go_upto_region 1 with (fail)
  refine wp_world (fun W => Blk W w.heap.size 40 (ouV (.slice none 0 0)) ∧ Below w.heap.size w W) ?_ ?_
  · exact ⟨Blk.new w _ _, (Below.refl _ w).alloc (Nat.le_refl _) _⟩
  intro W hW
  have HW := Lib.hid hW
  clear hW
  have hmcl := H.out.1.c.lt
  have hrl := H.out.1.J.d.b.lt
  have hgl := H.out.1.J.d.s.lt
  have hjl := H.out.1.J.lt
  have hmhl := H.out.1.d.lt
  have hhl : h < w.heap.size := by obtain ⟨ch, hb⟩ := H.out.1.b; exact hb.lt
  have hbl := (H.out.1.co (c : Int) b H.out.2.1).1.lt
  go_wp2_with (first
    | (go_at_call 22; apply Calls.mono; (· (with_reducible refine act_c (fun x => P x ∧ x < w.heap.size) h mc mh j r g n k used nc cnt cnts c b L E f had sl _ ?_ ?_ ?_ ?_ ?_ ?_ ?_); (· exact H.out.1.below HW.out.2); (· exact h4); (· exact hc); (· exact H.out.2.1); (· exact H.out.2.2.2.2); (· exact H.out.2.2.1); (· exact H.out.2.2.2.1)); rintro e w8 ⟨p5, c5, rfl, P2, hP2, hO8, hi8⟩; have ho8 := HW.out.1.only hO8 (fun e => (by rcases e with e | e; (· have := e.1.2; omega); (· omega))))
    | (refine wpList_store_row rfl 40 (.tmp 4) (.tmp 9) rfl w.heap.size (ouV (.slice p5 7 c5)) rfl rfl 40 (ouV (.slice none 0 0)) ho8 Tryz.infoOu rfl (ouV_one _ rfl) ?_))
  have ho9 : Only (fun x => x = w.heap.size) w8 (w8.setRow w.heap.size (ouV (.slice p5 7 c5))) := only_setRowS (q := fun k => k = w.heap.size) _ _ _ rfl
  have hb9 : Blk (w8.setRow w.heap.size (ouV (.slice p5 7 c5))) w.heap.size 40 (ouV (.slice p5 7 c5)) := setRow_heap _ w.heap.size _ (ouV (.slice p5 7 c5)) 40 (0, 0) ho8
  refine bodyPost_ret (v := .tuple #[.agg (ouV (.slice p5 7 c5)), .int .i64 0]) (results_ct (P := Tryz.prog) 4 5 Tryz.results11 _ _ w.heap.size _ (ouV (.slice p5 7 c5)) _ (.int .i64 0) rfl rfl hb9 Tryz.underlying40 rfl Tryz.infoOu) rfl ⟨p5, c5, rfl, P2, fun x hx => ?_, ?_, hi8.keep ho9 (fun x hx e => ?_) (fun x y hx e => ?_)⟩
  · rcases hP2 x hx with e | e
    · exact .inl e.1
    · exact .inr (Nat.le_trans HW.out.2.size e)
  · refine ((Only.of_below HW.out.2).then (hO8.mono (fun x _ e => ?_))).trans ho9 (fun x e => e) (fun x hx e => ?_)
    · rcases e with e | e
      · exact .inl e.1
      · exact .inr e
    · omega
  · subst e
    have hWl := HW.out.1.lt
    rcases hx with hx | hx | hx | hx | hx | hx | hx
    · rcases hP2 _ hx with e | e
      · have := e.1.2; omega
      · omega
    all_goals omega
  · subst e
    unfold updF at hx
    by_cases e2 : x = (c : Int)
    · rw [if_pos e2] at hx; cases hx
    · rw [if_neg e2] at hx
      have := (H.out.1.co x _ hx).1.lt
      omega
end Go.Proofs.YtolgaapiedbkfaaGreat
/-
  The contracts of host's act, Close, Write and Freeze on a connection that does not live. Conditions: those of each theorem.
-/
namespace Go.Proofs.YtolgaapiedbkfaaGreat
open Go.RowKit Go.Kx Go.Maps
set_option linter.unusedVariables false
set_option linter.unusedSimpArgs false
set_option maxRecDepth 100000
theorem Tryz.builtOuN : Tryz.prog.built 40 [] = some (ouV (.slice none 0 0)) := by kernel_rfl
/-- What is told of a connection that does not live. -/
def NoneR (w : World) (e : Ending) (w' : World) : Prop := e = .returned (.tuple #[.agg (ouV (.slice none 0 0)), .int .i64 13]) ∧ Below w.heap.size w w'
set_option maxHeartbeats 8000000 in
theorem act_none (h c mc nc : Nat) (f : Int → Option Nat) (F : FuncId) (A B : Array Value) (w : World) (c73 : w.cell? ⟨h, 73, none⟩ = some (.bool false)) (c68 : w.cell? ⟨h, 68, none⟩ = some (.map (some mc))) (hm : CnS w mc f nc) (hc : c ≤ 100000) (hf : f (c : Int) = none) :
    Calls Tryz.prog 22 #[rp h, .int .i64 (c : Int), .func (.func F) A B] w (NoneR w) := by
  have hh : h < w.heap.size := World.block_lt_of_cell? w _ c68
  have H := Lib.hid (And.intro c73 (And.intro c68 (And.intro hm (And.intro hf hh))))
  clear c73 c68 hm hf hh
  go_enter Tryz.func22, Tryz.ntmps22
  go_upto_region 1 with (fail)
  refine wp_world (fun W => Blk W (w.heap.size + 1) 40 (ouV (.slice none 0 0)) ∧ Below w.heap.size w W) ?_ ?_
  · have b2 := Blk.new (w.alloc (.cells #[.func (.func F) A B] 82)) 40 (ouV (.slice none 0 0))
    rw [World.size_alloc] at b2
    exact ⟨b2, ((Below.refl _ w).alloc (Nat.le_refl _) _).alloc (by simp) _⟩
  intro W hW
  have HW := Lib.hid hW
  clear hW
  go_upto_region 2 with (go_at_call 27; apply Calls.mono; (· (with_reducible refine hmay_no h c mc f nc _ ?_ ?_ ?_ ?_ ?_); (· exact (HW.out.2.cell H.out.2.2.2.2).trans H.out.1); (· exact (HW.out.2.cell H.out.2.2.2.2).trans H.out.2.1); (· exact H.out.2.2.1.only (Only.of_below HW.out.2 : Only (fun _ => False) _ _) (fun h => h)); (· exact hc); (· exact H.out.2.2.2.1)); rintro e w1 ⟨rfl, hw1⟩; rw [hw1]; clear hw1 w1)
  refine wp_world (fun V => Blk V (w.heap.size + 1) 40 (ouV (.slice none 0 0)) ∧ Below w.heap.size w V) ?_ ?_
  · have b1 : Below W.heap.size W (W.alloc (.cells #[.pointer none] 67)) := (Below.refl _ W).alloc (Nat.le_refl _) _
    exact ⟨HW.out.1.below b1, HW.out.2.trans (b1.mono HW.out.2.size)⟩
  intro V hV
  have HV := Lib.hid hV
  have ho8 := hV.1
  clear hV
  go_wp2_with (first
    | (refine wpList_build_eq rfl 40 _ rfl (C := ouV (.slice none 0 0)) (l := []) (by simp [Act.eval, Act.put]) Tryz.builtOuN ?_)
    | (refine wpList_store_row rfl 40 (.tmp 6) (.tmp 21) rfl (w.heap.size + 1) (ouV (.slice none 0 0)) rfl rfl 40 (ouV (.slice none 0 0)) ho8 Tryz.infoOu rfl (ouV_one _ rfl) ?_))
  have ho9 : Only (fun x => x = w.heap.size + 1) V (V.setRow (w.heap.size + 1) (ouV (.slice none 0 0))) := only_setRowS (q := fun k => k = w.heap.size + 1) _ _ _ rfl
  have hb9 : Blk (V.setRow (w.heap.size + 1) (ouV (.slice none 0 0))) (w.heap.size + 1) 40 (ouV (.slice none 0 0)) := setRow_heap _ (w.heap.size + 1) _ (ouV (.slice none 0 0)) 40 (0, 0) HV.out.1
  exact bodyPost_ret (v := .tuple #[.agg (ouV (.slice none 0 0)), .int .i64 13]) (results_ct (P := Tryz.prog) 6 7 Tryz.results22 _ _ (w.heap.size + 1) _ (ouV (.slice none 0 0)) _ (.int .i64 13) rfl rfl hb9 Tryz.underlying40 rfl Tryz.infoOu) rfl ⟨rfl, below_only HV.out.2 HV.out.2.size ho9 (fun x hx e => by omega)⟩
set_option maxHeartbeats 8000000 in
theorem hclose_none (h c mc nc : Nat) (f : Int → Option Nat) (w : World) (c73 : w.cell? ⟨h, 73, none⟩ = some (.bool false)) (c68 : w.cell? ⟨h, 68, none⟩ = some (.map (some mc))) (hm : CnS w mc f nc) (hc : c ≤ 100000) (hf : f (c : Int) = none) :
    Calls Tryz.prog 11 #[rp h, .int .i64 (c : Int)] w (NoneR w) := by
  have hh : h < w.heap.size := World.block_lt_of_cell? w _ c68
  have H := Lib.hid (And.intro c73 (And.intro c68 (And.intro hm (And.intro hf hh))))
  clear c73 c68 hm hf hh
  go_enter Tryz.func11, Tryz.ntmps11
  go_upto_region 1 with (fail)
  refine wp_world (fun W => Blk W w.heap.size 40 (ouV (.slice none 0 0)) ∧ Below w.heap.size w W) ?_ ?_
  · exact ⟨Blk.new w _ _, (Below.refl _ w).alloc (Nat.le_refl _) _⟩
  intro W hW
  have HW := Lib.hid hW
  clear hW
  go_wp2_with (first
    | (go_at_call 22; apply Calls.mono; (· (with_reducible refine act_none h c mc nc f _ _ _ _ ?_ ?_ ?_ ?_ ?_); (· exact (HW.out.2.cell H.out.2.2.2.2).trans H.out.1); (· exact (HW.out.2.cell H.out.2.2.2.2).trans H.out.2.1); (· exact H.out.2.2.1.only (Only.of_below HW.out.2 : Only (fun _ => False) _ _) (fun h => h)); (· exact hc); (· exact H.out.2.2.2.1)); rintro e V ⟨rfl, hV⟩; have ho8 := HW.out.1.below hV)
    | (refine wpList_store_row rfl 40 (.tmp 4) (.tmp 9) rfl w.heap.size (ouV (.slice none 0 0)) rfl rfl 40 (ouV (.slice none 0 0)) ho8 Tryz.infoOu rfl (ouV_one _ rfl) ?_))
  have ho9 : Only (fun x => x = w.heap.size) V (V.setRow w.heap.size (ouV (.slice none 0 0))) := only_setRowS (q := fun k => k = w.heap.size) _ _ _ rfl
  have hb9 : Blk (V.setRow w.heap.size (ouV (.slice none 0 0))) w.heap.size 40 (ouV (.slice none 0 0)) := setRow_heap _ w.heap.size _ (ouV (.slice none 0 0)) 40 (0, 0) ho8
  have hVB := HW.out.2.trans (hV.mono HW.out.2.size)
  exact bodyPost_ret (v := .tuple #[.agg (ouV (.slice none 0 0)), .int .i64 13]) (results_ct (P := Tryz.prog) 4 5 Tryz.results11 _ _ w.heap.size _ (ouV (.slice none 0 0)) _ (.int .i64 13) rfl rfl hb9 Tryz.underlying40 rfl Tryz.infoOu) rfl ⟨rfl, below_only hVB hVB.size ho9 (fun x hx e => by omega)⟩
set_option maxHeartbeats 8000000 in
theorem hwrite_none (h c mc nc : Nat) (f : Int → Option Nat) (w : World) (c73 : w.cell? ⟨h, 73, none⟩ = some (.bool false)) (c68 : w.cell? ⟨h, 68, none⟩ = some (.map (some mc))) (hm : CnS w mc f nc) (hc : c ≤ 100000) (hf : f (c : Int) = none) :
    Calls Tryz.prog 12 #[rp h, .int .i64 (c : Int), .slice none 0 0] w (NoneR w) := by
  have hh : h < w.heap.size := World.block_lt_of_cell? w _ c68
  have H := Lib.hid (And.intro c73 (And.intro c68 (And.intro hm (And.intro hf hh))))
  clear c73 c68 hm hf hh
  go_enter Tryz.func12, Tryz.ntmps12
  go_upto_region 1 with (fail)
  refine wp_world (fun W => Blk W (w.heap.size + 1) 40 (ouV (.slice none 0 0)) ∧ Below w.heap.size w W) ?_ ?_
  · have b2 := Blk.new (w.alloc (.cells #[.slice none 0 0] 38)) 40 (ouV (.slice none 0 0))
    rw [World.size_alloc] at b2
    exact ⟨b2, ((Below.refl _ w).alloc (Nat.le_refl _) _).alloc (by simp) _⟩
  intro W hW
  have HW := Lib.hid hW
  clear hW
  go_wp2_with (first
    | (go_at_call 22; apply Calls.mono; (· (with_reducible refine act_none h c mc nc f _ _ _ _ ?_ ?_ ?_ ?_ ?_); (· exact (HW.out.2.cell H.out.2.2.2.2).trans H.out.1); (· exact (HW.out.2.cell H.out.2.2.2.2).trans H.out.2.1); (· exact H.out.2.2.1.only (Only.of_below HW.out.2 : Only (fun _ => False) _ _) (fun h => h)); (· exact hc); (· exact H.out.2.2.2.1)); rintro e V ⟨rfl, hV⟩; have ho8 := HW.out.1.below hV)
    | (refine wpList_store_row rfl 40 (.tmp 6) (.tmp 12) rfl (w.heap.size + 1) (ouV (.slice none 0 0)) rfl rfl 40 (ouV (.slice none 0 0)) ho8 Tryz.infoOu rfl (ouV_one _ rfl) ?_))
  have ho9 : Only (fun x => x = w.heap.size + 1) V (V.setRow (w.heap.size + 1) (ouV (.slice none 0 0))) := only_setRowS (q := fun k => k = w.heap.size + 1) _ _ _ rfl
  have hb9 : Blk (V.setRow (w.heap.size + 1) (ouV (.slice none 0 0))) (w.heap.size + 1) 40 (ouV (.slice none 0 0)) := setRow_heap _ (w.heap.size + 1) _ (ouV (.slice none 0 0)) 40 (0, 0) ho8
  have hVB := HW.out.2.trans (hV.mono HW.out.2.size)
  exact bodyPost_ret (v := .tuple #[.agg (ouV (.slice none 0 0)), .int .i64 13]) (results_ct (P := Tryz.prog) 6 7 Tryz.results12 _ _ (w.heap.size + 1) _ (ouV (.slice none 0 0)) _ (.int .i64 13) rfl rfl hb9 Tryz.underlying40 rfl Tryz.infoOu) rfl ⟨rfl, below_only hVB hVB.size ho9 (fun x hx e => by omega)⟩
theorem hfreeze_none (h c mc nc : Nat) (f : Int → Option Nat) (w : World) (c73 : w.cell? ⟨h, 73, none⟩ = some (.bool false)) (c68 : w.cell? ⟨h, 68, none⟩ = some (.map (some mc))) (hm : CnS w mc f nc) (hc : c ≤ 100000) (hf : f (c : Int) = none) :
    Calls Tryz.prog 13 #[rp h, .int .i64 (c : Int)] w fun e w' => e = .returned (.int .i64 13) ∧ w' = w := by
  have H := Lib.hid (And.intro c73 (And.intro c68 (And.intro hm hf)))
  clear c73 c68 hm hf
  go_enter Tryz.func13, Tryz.ntmps13
  go_wp2_with (go_at_call 27; apply Calls.mono; (· (with_reducible refine hmay_no h c mc f nc _ ?_ ?_ ?_ ?_ ?_); (· exact H.out.1); (· exact H.out.2.1); (· exact H.out.2.2.1); (· exact hc); (· exact H.out.2.2.2)); rintro e w1 ⟨rfl, hw1⟩; rw [hw1]; clear hw1 w1)
  go_ret
  exact ⟨rfl, rfl⟩
end Go.Proofs.YtolgaapiedbkfaaGreat
/-
  The contract of host's next: the vault's first count. Conditions: those of each theorem.
-/
namespace Go.Proofs.YtolgaapiedbkfaaGreat
open Go.RowKit Go.Kx Go.Maps
set_option linter.unusedVariables false
set_option linter.unusedSimpArgs false
set_option maxRecDepth 100000
theorem HI.host {w w' : World} {P : Nat → Prop} {h mc mh j r g n k used nc cnt cnts cnt' cnts' : Nat} {L : List UInt8} {E : List (List UInt8)} {f : Int → Option Nat} {had : List Int} {sl sl' : Value} (hi : HI w P h mc mh j r g n k L E used f nc had cnt cnts sl) (hb : ∃ ch, Blk w' h 64 (hoV j ch tkF mc mh cnt' cnts' sl' false)) (ho : Only (fun x => x = h) w w') : HI w' P h mc mh j r g n k L E used f nc had cnt' cnts' sl' := by
  have hn := JI.not hi h (.inl rfl)
  obtain ⟨h1, h2, h3, h4, h5, h6, h7, h8⟩ := hi
  exact ⟨hb, h2.only ho (by omega), h3.only ho (by omega), h4.keep ho hn, fun x b hx => ⟨(h5 x b hx).1.only ho (h5 x b hx).2.2.1, (h5 x b hx).2⟩, h6, h7, h8⟩
theorem HI.set71 {w : World} {P : Nat → Prop} {h mc mh j r g n k used nc cnt cnts : Nat} {L : List UInt8} {E : List (List UInt8)} {f : Int → Option Nat} {had : List Int} {sl : Value} (hi : HI w P h mc mh j r g n k L E used f nc had cnt cnts sl) (m : Nat) : HI (w.setCell ⟨h, 71, none⟩ (.int .i64 (m : Int))) P h mc mh j r g n k L E used f nc had cnt m sl ∧ Only (fun x => x = h) w (w.setCell ⟨h, 71, none⟩ (.int .i64 (m : Int))) := by
  have ho : Only (fun x => x = h) w (w.setCell ⟨h, 71, none⟩ (.int .i64 (m : Int))) := (Only.refl _ w).setCell _ _ (.inl rfl)
  obtain ⟨ch, hb⟩ := hi.b
  have h1 := hb.set 71 (.int .i64 (m : Int))
  rw [(hoV_set j ch tkF tkF_len mc mh cnt cnts sl false).2.2.1 m] at h1
  exact ⟨hi.host ⟨ch, h1⟩ ho, ho⟩
theorem HI.set70 {w : World} {P : Nat → Prop} {h mc mh j r g n k used nc cnt cnts : Nat} {L : List UInt8} {E : List (List UInt8)} {f : Int → Option Nat} {had : List Int} {sl : Value} (hi : HI w P h mc mh j r g n k L E used f nc had cnt cnts sl) (m : Nat) : HI (w.setCell ⟨h, 70, none⟩ (.int .i64 (m : Int))) P h mc mh j r g n k L E used f nc had m cnts sl ∧ Only (fun x => x = h) w (w.setCell ⟨h, 70, none⟩ (.int .i64 (m : Int))) := by
  have ho : Only (fun x => x = h) w (w.setCell ⟨h, 70, none⟩ (.int .i64 (m : Int))) := (Only.refl _ w).setCell _ _ (.inl rfl)
  obtain ⟨ch, hb⟩ := hi.b
  have h1 := hb.set 70 (.int .i64 (m : Int))
  rw [(hoV_set j ch tkF tkF_len mc mh cnt cnts sl false).2.1 m] at h1
  exact ⟨hi.host ⟨ch, h1⟩ ho, ho⟩
theorem HI.set72 {w : World} {P : Nat → Prop} {h mc mh j r g n k used nc cnt cnts : Nat} {L : List UInt8} {E : List (List UInt8)} {f : Int → Option Nat} {had : List Int} {sl : Value} (hi : HI w P h mc mh j r g n k L E used f nc had cnt cnts sl) (v : Value) : HI (w.setCell ⟨h, 72, none⟩ v) P h mc mh j r g n k L E used f nc had cnt cnts v ∧ Only (fun x => x = h) w (w.setCell ⟨h, 72, none⟩ v) := by
  have ho : Only (fun x => x = h) w (w.setCell ⟨h, 72, none⟩ v) := (Only.refl _ w).setCell _ _ (.inl rfl)
  obtain ⟨ch, hb⟩ := hi.b
  have h1 := hb.set 72 v
  rw [(hoV_set j ch tkF tkF_len mc mh cnt cnts sl false).2.2.2 v] at h1
  exact ⟨hi.host ⟨ch, h1⟩ ho, ho⟩
theorem entry_24 (w : World) : Calls Tryz.prog 19 #[.int .i64 2, .int .i64 8, .int .i64 4] w (NewOB w (2 :: be 8 4)) := entry_4 2 8 w (by decide) (by decide)
theorem HI.fr {w : World} {P : Nat → Prop} {h mc mh j r g n k used nc cnt cnts : Nat} {L : List UInt8} {E : List (List UInt8)} {f : Int → Option Nat} {had : List Int} {sl : Value} (hi : HI w P h mc mh j r g n k L E used f nc had cnt cnts sl) (o : Nat) : w.frozen? ⟨h, o, none⟩ = false := by
  obtain ⟨ch, hb⟩ := hi.b
  exact hb.fr o
/-- What next tells: count 0, eight are reserved. -/
def NexR (P0 : Nat → Prop) (h mc mh j r g n k : Nat) (L : List UInt8) (E : List (List UInt8)) (used : Nat) (f : Int → Option Nat) (nc : Nat) (had : List Int) (sl : Value) (w : World) (e : Ending) (w' : World) : Prop :=
  e = .returned (.tuple #[.int .i64 0, .int .i64 0]) ∧ ∃ P, (∀ x, P x → P0 x ∨ w.heap.size ≤ x) ∧ HI w' P h mc mh j r g n (k + 1) (splice L ((2 + used) * 64) (secsF 1 E.length (2 :: be 8 4))) (E ++ [2 :: be 8 4]) (used + 1) f nc had 1 8 sl ∧ Only (fun x => P0 x ∨ x = h ∨ x = j ∨ x = r ∨ x = g) w w'
set_option maxHeartbeats 8000000 in
theorem next_c (P : Nat → Prop) (h mc mh j r g n k used nc : Nat) (L : List UInt8) (E : List (List UInt8)) (f : Int → Option Nat) (had : List Int) (sl : Value) (w : World) (hi : HI w P h mc mh j r g n k L E used f nc had 0 0 sl)
    (h4 : 4 ≤ n) (hu : used + 1 ≤ areaF n) (hE : E.length ≤ 1000) (hk : k ≤ 1000) :
    Calls Tryz.prog 29 #[rp h] w (NexR P h mc mh j r g n k L E used f nc had sl w) := by
  have hbl : (2 :: be 8 4).length = 5 := by rw [List.length_cons, be_length]
  have H := Lib.hid (And.intro hi (And.intro hE (And.intro hk (And.intro hu hbl))))
  obtain ⟨g0, g68, g69, g70, g71, _, g73⟩ := hi.g
  have g70 : w.cell? ⟨h, 70, none⟩ = some (.int .i64 0) := g70
  have g71 : w.cell? ⟨h, 71, none⟩ = some (.int .i64 0) := g71
  clear hi hE hk hu hbl
  go_enter Tryz.func29, Tryz.ntmps29
  go_upto_region 1 with (fail)
  go_quiet (fail)
  go_upto_region 3 with (first
    | (go_at_call 19; apply Calls.mono; (· (with_reducible exact entry_24 _)); rintro e w1 ⟨p1, n1, c1, rfl, h1, x1, b1⟩; have b1 := undrewN b1; have hn1 := h1.len; rw [H.out.2.2.2.2] at hn1; subst hn1; obtain ⟨G1, rfl, hog, hgl⟩ := h1.pos (by decide))
    | (go_at_call 18; apply Calls.mono; (· (with_reducible refine write_c P h mc mh j r g n k used nc 0 0 5 c1 L E f had sl (fun x => owB (some ⟨G1, 0, none⟩) 5 c1 x) ⟨G1, 0, none⟩ (2 :: be 8 4) _ ?_ ?_ ?_ ?_ ?_ ?_ ?_ ?_ ?_ ?_ ?_ ?_); (· exact H.out.1.below b1); (· exact h4); (· exact h1.rd); (· intro x hx; have hx1 : w.heap.size ≤ x := x1 x hx; have := H.out.1.J.d.b.lt; have := H.out.1.J.d.s.lt; have := H.out.1.J.lt; omega); (· exact h1.form.1); (· exact H.out.2.2.2.2); (· decide); (· decide); (· decide); (· exact H.out.2.2.2.1); (· exact H.out.2.1); (· exact H.out.2.2.1)); rintro e w2 ⟨rfl, hi2, hO2⟩))
  rw [H.out.2.2.2.2] at hi2
  have hn1 : needF 5 = 1 := by decide
  rw [hn1] at hi2
  have hO12 : Only (fun x => P x ∨ x = h ∨ x = j ∨ x = r ∨ x = g) w w2 := (Only.of_below b1).then (hO2.mono (fun x _ e => (by rcases e with e | e; (· exact .inl e); (· exact .inr (.inr e)))))
  have hsb := b1.size
  have HI2 := Lib.hid (And.intro hi2 (And.intro hO12 hsb))
  obtain ⟨g0, g68, g69, _, g71, _, g73⟩ := hi2.g
  have f71 := hi2.fr 71
  have g71 : w2.cell? ⟨h, 71, none⟩ = some (.int .i64 0) := g71
  clear hi2 hO2 hO12 hsb h1 x1 b1 hog
  go_upto_region 6 with (fail)
  refine wp_world (fun W => HI W (fun x => P x ∨ w1.heap.size ≤ x) h mc mh j r g n (k + 1) (splice L ((2 + used) * 64) (secsF 1 E.length (2 :: be 8 4))) (E ++ [2 :: be 8 4]) (used + 1) f nc had 0 8 sl ∧ Only (fun x => x = h) w2 W) ?_ ?_
  · exact HI2.out.1.set71 8
  intro W hW
  have HW := Lib.hid hW
  obtain ⟨_, _, _, g70, _, _, _⟩ := hW.1.g
  have f70 := hW.1.fr 70
  have g70 : W.cell? ⟨h, 70, none⟩ = some (.int .i64 0) := g70
  clear hW
  go_upto_region 7 with (fail)
  refine wp_world (fun W' => HI W' (fun x => P x ∨ w1.heap.size ≤ x) h mc mh j r g n (k + 1) (splice L ((2 + used) * 64) (secsF 1 E.length (2 :: be 8 4))) (E ++ [2 :: be 8 4]) (used + 1) f nc had 1 8 sl ∧ Only (fun x => x = h) W W') ?_ ?_
  · exact HW.out.1.set70 1
  intro V hV
  have HV := Lib.hid hV
  obtain ⟨_, _, _, e70, _, _, _⟩ := hV.1.g
  have e70 : V.cell? ⟨h, 70, none⟩ = some (.int .i64 1) := e70
  clear hV
  go_wp2
  go_ret2
  refine ⟨rfl, _, fun x hx => ?_, HV.out.1, (HI2.out.2.1.then (HW.out.2.mono (fun x _ e => .inr (.inl e)))).then (HV.out.2.mono (fun x _ e => .inr (.inl e)))⟩
  rcases hx with e | e
  · exact .inl e
  · exact .inr (Nat.le_trans HI2.out.2.2 e)
end Go.Proofs.YtolgaapiedbkfaaGreat
