/-
  The contracts of host's Accept. Conditions: those of each theorem.
-/
import Derived.Test.YtolgaapiedbkfaaGreatZHstE
namespace Go.Proofs.YtolgaapiedbkfaaGreat
open Go.RowKit Go.Kx Go.Maps
set_option linter.unusedVariables false
set_option linter.unusedSimpArgs false
set_option maxRecDepth 100000
theorem Tryz.builtCo : Tryz.prog.built 74 [(0, .agg nC)] = some coV := by kernel_rfl
theorem HI.g {w : World} {P : Nat → Prop} {h mc mh j r g n k used nc cnt cnts : Nat} {L : List UInt8} {E : List (List UInt8)} {f : Int → Option Nat} {had : List Int} {sl : Value} (hi : HI w P h mc mh j r g n k L E used f nc had cnt cnts sl) :
    w.cell? ⟨h, 0, none⟩ = some (rp j) ∧ w.cell? ⟨h, 68, none⟩ = some (.map (some mc)) ∧ w.cell? ⟨h, 69, none⟩ = some (.map (some mh)) ∧ w.cell? ⟨h, 70, none⟩ = some (.int .i64 (cnt : Int)) ∧ w.cell? ⟨h, 71, none⟩ = some (.int .i64 (cnts : Int)) ∧ w.cell? ⟨h, 72, none⟩ = some sl ∧ w.cell? ⟨h, 73, none⟩ = some (.bool false) := by
  obtain ⟨ch, hb⟩ := hi.b
  obtain ⟨g0, g1, g2, g3, g4, g5, g6, g7⟩ := hoV_get j ch tkF tkF_len mc mh cnt cnts sl false
  exact ⟨(hb.c 0).trans g0, (hb.c 68).trans g2, (hb.c 69).trans g3, (hb.c 70).trans g4, (hb.c 71).trans g5, (hb.c 72).trans g6, (hb.c 73).trans g7⟩
theorem JI.lt {w : World} {P : Nat → Prop} {j r g n k used : Nat} {L : List UInt8} {E : List (List UInt8)} (h : JI w P j r g n k L E used) : j < w.heap.size := by obtain ⟨⟨_, _, hb, _⟩, _⟩ := h; exact hb.lt
theorem HI.below {w w' : World} {P : Nat → Prop} {h mc mh j r g n k used nc cnt cnts : Nat} {L : List UInt8} {E : List (List UInt8)} {f : Int → Option Nat} {had : List Int} {sl : Value} (hi : HI w P h mc mh j r g n k L E used f nc had cnt cnts sl) (hb : Below w.heap.size w w') : HI w' P h mc mh j r g n k L E used f nc had cnt cnts sl := by
  obtain ⟨⟨ch, h1⟩, h2, h3, h4, h5, h6, h7, h8⟩ := hi
  have ho : Only (fun _ => False) w w' := Only.of_below hb
  exact ⟨⟨ch, h1.below hb⟩, h2.only ho (fun h => h), h3.only ho (fun h => h), h4.below hb, fun x b hx => ⟨(h5 x b hx).1.below hb, (h5 x b hx).2⟩, h6, h7, h8⟩
theorem accept_bad (h : Nat) (c : Int) (w : World) (c73 : w.cell? ⟨h, 73, none⟩ = some (.bool false)) (hc : c = -1 ∨ c = 65536) : Calls Tryz.prog 9 #[rp h, .int .i64 c] w fun e w' => e = .returned (.int .i64 1) ∧ w' = w := by
  rcases hc with rfl | rfl
  · go_enter Tryz.func9, Tryz.ntmps9
    go_wp2
    go_ret
    exact ⟨rfl, rfl⟩
  · go_enter Tryz.func9, Tryz.ntmps9
    go_wp2
    go_ret
    exact ⟨rfl, rfl⟩
theorem accept_known (h c mh : Nat) (had : List Int) (w : World) (c73 : w.cell? ⟨h, 73, none⟩ = some (.bool false)) (c69 : w.cell? ⟨h, 69, none⟩ = some (.map (some mh))) (hd : HadAt w mh had) (hc : c ≤ 65535) (hm : (c : Int) ∈ had) :
    Calls Tryz.prog 9 #[rp h, .int .i64 (c : Int)] w fun e w' => e = .returned (.int .i64 11) ∧ w' = w := by
  have hl := run_lookup_had hd (c : Int) (WalkArith.wf_i64 (by omega))
  rw [decide_eq_true hm] at hl
  have k1 : ¬ ((c : Int) < 0) := by omega
  have k2 : ¬ ((65535 : Int) < (c : Int)) := by omega
  have k3 : ¬ (65535 < c) := by omega
  clear hd hm
  go_enter Tryz.func9, Tryz.ntmps9
  go_wp2
  go_ret
  exact ⟨rfl, rfl⟩
theorem accept_full (h c mh mc : Nat) (had : List Int) (f : Int → Option Nat) (w : World) (c73 : w.cell? ⟨h, 73, none⟩ = some (.bool false)) (c69 : w.cell? ⟨h, 69, none⟩ = some (.map (some mh))) (c68 : w.cell? ⟨h, 68, none⟩ = some (.map (some mc))) (hd : HadAt w mh had) (hn : CnS w mc f 4) (hc : c ≤ 65535) (hm : (c : Int) ∉ had) :
    Calls Tryz.prog 9 #[rp h, .int .i64 (c : Int)] w fun e w' => e = .returned (.int .i64 5) ∧ w' = w := by
  have hl := run_lookup_had hd (c : Int) (WalkArith.wf_i64 (by omega))
  rw [decide_eq_false hm] at hl
  have hlen := fun ty => run_len_cn hn ty
  have k1 : ¬ ((c : Int) < 0) := by omega
  have k2 : ¬ ((65535 : Int) < (c : Int)) := by omega
  have k3 : ¬ (65535 < c) := by omega
  clear hd hm hn
  go_enter Tryz.func9, Tryz.ntmps9
  go_wp2
  go_ret
  exact ⟨rfl, rfl⟩
theorem bld_co {ρ : Operand → Value} {dst : Option Tmp} {x : Operand} {ty : TypeId} {pos : String} {after : Array Edge} {gd : Option (Nat × Bool)} {w : World} (hx : ρ x = .agg nC) :
    (execOp ρ ⟨dst, .build 74 #[(0, x)], ty, pos, after, gd⟩).run Tryz.prog w = .ok (.value (.agg coV)) w := by
  unfold execOp
  simp only [hx, List.map_toArray, List.map_cons, List.map_nil]
  rw [Sem.run_bind, run_build w 74 _ _ Tryz.builtCo]
  rfl
theorem entry_42 (c : Nat) (w : World) (hc : c < 65536) : Calls Tryz.prog 19 #[.int .i64 4, .int .i64 (c : Int), .int .i64 2] w (NewOB w (4 :: be c 2)) := entry_2 4 c w (by decide) hc
theorem JI.not {w : World} {P : Nat → Prop} {h mc mh j r g n k used nc cnt cnts : Nat} {L : List UInt8} {E : List (List UInt8)} {f : Int → Option Nat} {had : List Int} {sl : Value} (hi : HI w P h mc mh j r g n k L E used f nc had cnt cnts sl) (x : Nat) (hx : x = h ∨ x = mc ∨ x = mh) : ∀ y, P y ∨ y = j ∨ y = r ∨ y = g → ¬ (y = x) := by
  intro y hy e
  subst e
  have h6 := hi.ne
  have h7 := hi.np
  rcases hx with rfl | rfl | rfl <;> rcases hy with hy | hy | hy | hy <;> first | exact h7.1 hy | exact h7.2.1 hy | exact h7.2.2 hy | omega
theorem HI.hadPut {w w' : World} {P : Nat → Prop} {h mc mh j r g n k used nc cnt cnts : Nat} {L : List UInt8} {E : List (List UInt8)} {f : Int → Option Nat} {had had' : List Int} {sl : Value} (hi : HI w P h mc mh j r g n k L E used f nc had cnt cnts sl) (hd : HadAt w' mh had') (ho : Only (fun x => x = mh) w w') : HI w' P h mc mh j r g n k L E used f nc had' cnt cnts sl := by
  have hn := JI.not hi mh (.inr (.inr rfl))
  obtain ⟨⟨ch, h1⟩, h2, h3, h4, h5, h6, h7, h8⟩ := hi
  exact ⟨⟨ch, h1.only ho (by omega)⟩, h2.only ho (by omega), hd, h4.keep ho hn, fun x b hx => ⟨(h5 x b hx).1.only ho (h5 x b hx).2.2.2.2.1, (h5 x b hx).2⟩, h6, h7, h8⟩
theorem HI.conPut {w w' : World} {P : Nat → Prop} {h mc mh j r g n k used nc cnt cnts : Nat} {L : List UInt8} {E : List (List UInt8)} {f : Int → Option Nat} {had : List Int} {sl : Value} {c : Int} {b nc' : Nat} (hi : HI w P h mc mh j r g n k L E used f nc had cnt cnts sl) (hb : Blk w b 74 coV) (hfr : ¬ P b ∧ b ≠ h ∧ b ≠ mc ∧ b ≠ mh ∧ b ≠ j ∧ b ≠ r ∧ b ≠ g) (hnw : ∀ x, f x ≠ some b) (hd : CnS w' mc (updF f c (some b)) nc') (ho : Only (fun x => x = mc) w w') : HI w' P h mc mh j r g n k L E used (updF f c (some b)) nc' had cnt cnts sl := by
  have hn := JI.not hi mc (.inr (.inl rfl))
  obtain ⟨⟨ch, h1⟩, h2, h3, h4, h5, h6, h7, h8⟩ := hi
  refine ⟨⟨ch, h1.only ho (by omega)⟩, hd, h3.only ho (by omega), h4.keep ho hn, fun x y hx => ?_, h6, h7, fun x y z hx hy => ?_⟩
  · unfold updF at hx
    by_cases e : x = c
    · rw [if_pos e] at hx
      cases hx
      exact ⟨hb.only ho (by omega), hfr⟩
    · rw [if_neg e] at hx
      exact ⟨(h5 x y hx).1.only ho (h5 x y hx).2.2.2.1, (h5 x y hx).2⟩
  · unfold updF at hx hy
    by_cases e : x = c
    · rw [if_pos e] at hx
      cases hx
      by_cases e2 : y = c
      · rw [e, e2]
      · rw [if_neg e2] at hy
        exact absurd hy (hnw y)
    · rw [if_neg e] at hx
      by_cases e2 : y = c
      · rw [if_pos e2] at hy
        cases hy
        exact absurd hx (hnw x)
      · rw [if_neg e2] at hy
        exact h8 x y z hx hy
theorem HI.mono {w : World} {P P' : Nat → Prop} {h mc mh j r g n k used nc cnt cnts : Nat} {L : List UInt8} {E : List (List UInt8)} {f : Int → Option Nat} {had : List Int} {sl : Value} (hi : HI w P h mc mh j r g n k L E used f nc had cnt cnts sl) (hp : ∀ x, P x → P' x) (hlow : ∀ x, P' x → P x ∨ w.heap.size ≤ x) : HI w P' h mc mh j r g n k L E used f nc had cnt cnts sl := by
  obtain ⟨⟨ch, h1⟩, h2, h3, h4, h5, h6, h7, h8⟩ := hi
  have a1 := h1.lt
  have a2 := h2.lt
  have a3 := h3.lt
  have a4 := h4.lt
  have a5 := h4.d.b.lt
  have a6 := h4.d.s.lt
  have key : ∀ x, x < w.heap.size → ¬ P x → ¬ P' x := fun x hx hn hp' => by
    rcases hlow x hp' with e | e
    · exact hn e
    · omega
  exact ⟨⟨ch, h1⟩, h2, h3, h4.mono hp ⟨key j a4 h4.np.1, key r a5 h4.np.2.1, key g a6 h4.np.2.2⟩, fun x b hx => ⟨(h5 x b hx).1, key b (h5 x b hx).1.lt (h5 x b hx).2.1, (h5 x b hx).2.2⟩, h6, ⟨key h a1 h7.1, key mc a2 h7.2.1, key mh a3 h7.2.2⟩, h8⟩
/-- All that the journal owns lies below. -/
theorem HI.low {w : World} {P : Nat → Prop} {h mc mh j r g n k used nc cnt cnts : Nat} {L : List UInt8} {E : List (List UInt8)} {f : Int → Option Nat} {had : List Int} {sl : Value} (hi : HI w P h mc mh j r g n k L E used f nc had cnt cnts sl) : HI w (fun x => P x ∧ x < w.heap.size) h mc mh j r g n k L E used f nc had cnt cnts sl := by
  obtain ⟨⟨ch, h1⟩, h2, h3, h4, h5, h6, h7, h8⟩ := hi
  obtain ⟨⟨p, c, j1, j2⟩, j3, j4, j5⟩ := h4
  exact ⟨⟨ch, h1⟩, h2, h3, ⟨⟨p, c, j1, j2.low⟩, j3, j4, ⟨fun e => j5.1 e.1, fun e => j5.2.1 e.1, fun e => j5.2.2 e.1⟩⟩, fun x b hx => ⟨(h5 x b hx).1, fun e => (h5 x b hx).2.1 e.1, (h5 x b hx).2.2⟩, h6, ⟨fun e => h7.1 e.1, fun e => h7.2.1 e.1, fun e => h7.2.2 e.1⟩, h8⟩
/-- What Accept tells. -/
def AcR (P0 : Nat → Prop) (w : World) (h mc mh j r g n k : Nat) (L : List UInt8) (E : List (List UInt8)) (used : Nat) (f : Int → Option Nat) (nc : Nat) (had : List Int) (cnt cnts : Nat) (sl : Value) (c : Nat) (e : Ending) (w' : World) : Prop :=
  e = .returned (.int .i64 0) ∧ ∃ P b, w.heap.size ≤ b ∧ (∀ x, P x → P0 x ∨ w.heap.size ≤ x) ∧ Only (fun x => P0 x ∨ x = mc ∨ x = mh ∨ x = j ∨ x = r ∨ x = g) w w' ∧ HI w' P h mc mh j r g n (k + 1) (splice L ((2 + used) * 64) (secsF 1 E.length (4 :: be c 2))) (E ++ [4 :: be c 2]) (used + 1) (updF f (c : Int) (some b)) (nc + 1) ((c : Int) :: had) cnt cnts sl
set_option maxHeartbeats 8000000 in
theorem accept_ok (P : Nat → Prop) (h mc mh j r g n k used nc cnt cnts c : Nat) (L : List UInt8) (E : List (List UInt8)) (f : Int → Option Nat) (had : List Int) (sl : Value) (w : World) (hi : HI w P h mc mh j r g n k L E used f nc had cnt cnts sl)
    (h4 : 4 ≤ n) (hc : c ≤ 65535) (hm : (c : Int) ∉ had) (hf : f (c : Int) = none) (hnc : nc < 4) (hu : used + 1 ≤ areaF n) (hE : E.length ≤ 1000) (hk : k ≤ 1000) (hhl : had.length ≤ 1000) :
    Calls Tryz.prog 9 #[rp h, .int .i64 (c : Int)] w (AcR P w h mc mh j r g n k L E used f nc had cnt cnts sl c) := by
  obtain ⟨g0, g68, g69, _, _, _, g73⟩ := hi.g
  have hl := run_lookup_had hi.d (c : Int) (WalkArith.wf_i64 (by omega))
  rw [decide_eq_false hm] at hl
  have hlen := fun ty => run_len_cn hi.c ty
  have k1 : ¬ ((c : Int) < 0) := by omega
  have k2 : ¬ ((65535 : Int) < (c : Int)) := by omega
  have k3 : ¬ (65535 < c) := by omega
  have k4 : ¬ ((nc : Int) = 4) := by omega
  have k5 : ¬ (nc = 4) := by omega
  have hbl : (4 :: be c 2).length = 3 := by rw [List.length_cons, be_length]
  have H := Lib.hid (And.intro hi (And.intro hf (And.intro hE (And.intro hk (And.intro hu (And.intro hbl (And.intro hhl hnc)))))))
  clear hi hf hE hk hu hbl hm hnc
  go_enter Tryz.func9, Tryz.ntmps9
  go_upto_region 11 with (fail)
  clear hl hlen g0 g68 g69 g73
  go_upto_region 12 with (first
    | (go_at_call 19; apply Calls.mono; (· (with_reducible refine entry_42 c _ ?_); (· omega)); rintro e w1 ⟨p1, n1, c1, rfl, h1, x1, b1⟩; have hn1 := h1.len; rw [H.out.2.2.2.2.2.1] at hn1; subst hn1; obtain ⟨G1, rfl, hog, hgl⟩ := h1.pos (by decide))
    | (go_at_call 18; apply Calls.mono; (· (with_reducible refine write_c P h mc mh j r g n k used nc cnt cnts 3 c1 L E f had sl (fun x => owB (some ⟨G1, 0, none⟩) 3 c1 x) ⟨G1, 0, none⟩ (4 :: be c 2) _ ?_ ?_ ?_ ?_ ?_ ?_ ?_ ?_ ?_ ?_ ?_ ?_); (· exact H.out.1.below b1); (· exact h4); (· exact h1.rd); (· intro x hx; have hx1 := x1 x hx; have := H.out.1.J.d.b.lt; have := H.out.1.J.d.s.lt; have := H.out.1.J.lt; omega); (· exact h1.form.1); (· exact H.out.2.2.2.2.2.1); (· decide); (· decide); (· decide); (· exact H.out.2.2.2.2.1); (· exact H.out.2.2.1); (· exact H.out.2.2.2.1)); rintro e w2 ⟨rfl, hi2, hO2⟩))
  rw [H.out.2.2.2.2.2.1] at hi2
  have hn1 : needF 3 = 1 := by decide
  rw [hn1] at hi2
  obtain ⟨g0, g68, g69, _, _, _, g73⟩ := hi2.g
  have hd2 := hi2.d
  have HI2 := Lib.hid hi2
  have hhl2 := H.out.2.2.2.2.2.2.1
  clear hi2
  go_upto_region 15 with (at_mapUpdate; refine wpList_update_had _ rfl _ _ _ rfl mh had (c : Int) rfl rfl rfl hd2 (WalkArith.wf_i64 (by omega)) (by unfold maxLen; omega) ?_; intro w3 hd3 hO3)
  have HI3 := Lib.hid (HI2.out.hadPut hd3 hO3).low
  have hsb := b1.size
  have hO23 : Only (fun x => P x ∨ x = mc ∨ x = mh ∨ x = j ∨ x = r ∨ x = g) w w3 := ((Only.of_below b1).then (hO2.mono (fun x _ e => (by rcases e with e | e; (· exact .inl e); (· exact .inr (.inr (.inr e))))))).then (hO3.mono (fun x _ e => .inr (.inr (.inl e))))
  have HO23 := Lib.hid (And.intro hO23 hsb)
  clear HI2 hd2 hd3 hO3 hO2 g0 g68 g69 g73 hO23 hsb
  refine wp_region_tail (S := fun wx => Below w3.heap.size w3 wx) (n := 8) (by kernel_rfl) (by decide) ?_
  try simp only [List.drop_succ_cons, List.drop_zero]
  obtain ⟨u0, hu0⟩ : ∃ u, u = w3.drew := ⟨_, rfl⟩
  have hS : Below w3.heap.size w3 u0 := by rw [hu0]; exact (Below.refl _ _).drew
  rw [← hu0]
  clear hu0
  try simp only [Act.put]
  refine wpAnyT_take (i := 0) (oi := _) (v := (rp h)) rfl (by kernel_rfl) (fun _ _ _ h => h) (by kernel_rfl) (fun wq hq => rfl) hS ?_
  try simp only [List.getElem_toArray, List.getElem_cons_succ, List.getElem_cons_zero, Act.put, List.setIfInBounds_toArray, List.set_cons_zero, List.set_cons_succ]
  refine wpAnyT_take (i := 1) (oi := _) (v := (rp h)) rfl (by kernel_rfl) (fun _ _ _ h => h) (by kernel_rfl) (fun wq hq => rfl) hS ?_
  try simp only [List.getElem_toArray, List.getElem_cons_succ, List.getElem_cons_zero, Act.put, List.setIfInBounds_toArray, List.set_cons_zero, List.set_cons_succ]
  refine wpAnyT_take (i := 2) (oi := _) (v := (.pointer (some ⟨h, 68, none⟩))) rfl (by kernel_rfl) (fun _ _ _ h => h) (by kernel_rfl) (fun wq hq => by go_simp) hS ?_
  try simp only [List.getElem_toArray, List.getElem_cons_succ, List.getElem_cons_zero, Act.put, List.setIfInBounds_toArray, List.set_cons_zero, List.set_cons_succ]
  refine wpAnyT_take (i := 3) (oi := _) (v := (.map (some mc))) rfl (by kernel_rfl) (fun _ _ _ h => h) (by kernel_rfl) (fun wq hq => by have h := (HI3.out.below hq).g.2.1; go_simp) hS ?_
  try simp only [List.getElem_toArray, List.getElem_cons_succ, List.getElem_cons_zero, Act.put, List.setIfInBounds_toArray, List.set_cons_zero, List.set_cons_succ]
  refine wpAnyT_take (i := 4) (oi := _) (v := (.int .i64 (c : Int))) rfl (by kernel_rfl) (fun _ _ _ h => h) (by kernel_rfl) (fun wq hq => rfl) hS ?_
  try simp only [List.getElem_toArray, List.getElem_cons_succ, List.getElem_cons_zero, Act.put, List.setIfInBounds_toArray, List.set_cons_zero, List.set_cons_succ]
  refine wpAnyT_ready (rs := [5]) (by kernel_rfl) (by simp) ?_
  refine AllReadyT.cons rfl (by decide) (fun K hC => ?_) AllReadyT.nil
  go_simp
  go_wp2_with (go_at_call 20; apply Calls.mono; (· (with_reducible exact snew_c _)); rintro e w5 ⟨rfl, b5⟩)
  have hS := hS.trans (b5.mono hS.size)
  refine hC.out _ _ hS ?_
  clear hC K b5
  try simp only [List.getElem_toArray, List.getElem_cons_succ, List.getElem_cons_zero, Act.put, List.setIfInBounds_toArray, List.set_cons_zero, List.set_cons_succ]
  refine wpAnyT_take (i := 6) (oi := _) (v := (.agg coV)) rfl (by kernel_rfl) (fun _ _ _ h => h) (by kernel_rfl) (fun wq hq => bld_co rfl) hS ?_
  try simp only [List.getElem_toArray, List.getElem_cons_succ, List.getElem_cons_zero, Act.put, List.setIfInBounds_toArray, List.set_cons_zero, List.set_cons_succ]
  refine wpAnyT_ready (rs := [7]) (by kernel_rfl) (by simp) ?_
  refine AllReadyT.cons rfl (by decide) (fun K hC => ?_) AllReadyT.nil
  go_simp
  go_wp2
  have hco := Blk.new w5 74 coV
  have hgeb := hS.size
  have hS := hS.alloc hS.size (.cells coV 74)
  refine hC.out _ _ hS ?_
  clear hC K
  try simp only [List.getElem_toArray, List.getElem_cons_succ, List.getElem_cons_zero, Act.put, List.setIfInBounds_toArray, List.set_cons_zero, List.set_cons_succ]
  obtain ⟨bC, hbC⟩ : ∃ b, b = w5.heap.size := ⟨_, rfl⟩
  rw [← hbC] at hco hgeb ⊢
  change wpAnyT _ _ _ _ _ _ _ _ _ _ (w5.alloc (.cells coV 74))
  generalize w5.alloc (.cells coV 74) = w6 at *
  have HI6 := Lib.hid (And.intro (HI3.out.below hS) hco)
  have hcc := HI6.out.1.c
  have hff := H.out.2.1
  have hncc := H.out.2.2.2.2.2.2.2
  refine wpAnyT_tail (by kernel_rfl) ?_
  try simp only [List.getElem_toArray, List.getElem_cons_succ, List.getElem_cons_zero, Act.put, List.setIfInBounds_toArray, List.set_cons_zero, List.set_cons_succ]
  go_wp2_with (at_mapUpdate; refine wpList_update_cn _ rfl _ _ _ rfl mc nc f (c : Int) bC rfl rfl rfl hcc hff (WalkArith.wf_i64 (by omega)) (by unfold maxLen; omega) ?_; intro w7 hc7 hO7)
  go_ret
  have a1 := HI3.out.b
  have a2 := HI3.out.c.lt
  have a3 := HI3.out.d.lt
  have a4 := HI3.out.J.lt
  have a5 := HI3.out.J.d.b.lt
  have a6 := HI3.out.J.d.s.lt
  obtain ⟨ch1, a1⟩ := a1
  have a1 := a1.lt
  have hb3 := HO23.out.1.size
  refine ⟨rfl, _, bC, by omega, fun x hx => ?_, (HO23.out.1.then (Only.of_below hS)).then (hO7.mono (fun x _ e => .inr (.inl e))), HI6.out.1.conPut HI6.out.2 ⟨fun e => by have := e.2; omega, by omega, by omega, by omega, by omega, by omega, by omega⟩ (fun x hx => by have := (HI3.out.co x bC hx).1.lt; omega) hc7 hO7⟩
  rcases hx.1 with e | e
  · exact .inl e
  · exact .inr (Nat.le_trans HO23.out.2 e)
end Go.Proofs.YtolgaapiedbkfaaGreat
