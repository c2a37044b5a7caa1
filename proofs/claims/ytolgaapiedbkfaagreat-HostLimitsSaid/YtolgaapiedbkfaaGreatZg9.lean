/-
  The contract of journal's Open. Conditions: those of the theorem.
-/
import Derived.Test.YtolgaapiedbkfaaGreatZg8
import Derived.Test.YtolgaapiedbkfaaGreatZg5
import Derived.Test.YtolgaapiedbkfaaGreatZg4
namespace Go.Proofs.YtolgaapiedbkfaaGreat
open Go.RowKit Go.Kx
set_option linter.unusedVariables false
set_option linter.unusedSimpArgs false
set_option maxRecDepth 100000
theorem newest_1 (r g n k : Nat) (L : List UInt8) (w : World) (h : DiskI w r g n k L) (h4 : 4 ≤ n) (hN : nwF L = (1, 0, true)) : Calls Tryz.prog 34 #[rp r] w fun e w' => e = .returned (.tuple #[.int .u64 1, .int .i64 0, .bool true, .int .i64 0]) ∧ Below w.heap.size w w' := by
  refine (newest_c r g n k L w h h4).mono ?_
  rintro e w' ⟨rfl, hb⟩
  rw [hN]
  exact ⟨rfl, hb⟩
theorem jrV_set3 (r used : Nat) (v v' : Value) : (jrV r v used).setIfInBounds 3 v' = jrV r v' used := rfl
theorem jrV_set4 (r used used' : Nat) (v : Value) : (jrV r v used).setIfInBounds 4 (.int .i64 ((used' : Nat) : Int)) = jrV r v used' := rfl
def OpRel (w : World) (j r g n k : Nat) (L : List UInt8) (E : List (List UInt8)) (wr : World) : Prop := ∃ A R, E = A ++ R ∧ Lays L n A.length (usedF A) R ∧ JI wr (fun x => w.heap.size ≤ x ∧ x ≠ j) j r g n k L A (usedF A) ∧ w.heap.size ≤ j ∧ Below w.heap.size w wr
/-- What Open tells. -/
def OpnR (w : World) (r g n k : Nat) (L : List UInt8) (E : List (List UInt8)) (e : Ending) (w' : World) : Prop := ∃ j, e = .returned (.tuple #[rp j, .int .i64 0]) ∧ JI w' (fun x => w.heap.size ≤ x ∧ x ≠ j) j r g n k L E (usedF E) ∧ w.heap.size ≤ j ∧ Below w.heap.size w w'
theorem lays_used {L : List UInt8} {n : Nat} : ∀ {R : List (List UInt8)} {m used : Nat}, Lays L n m used R → used ≤ areaF n
  | [], m, used, h => Nat.le_of_lt h.1
  | b :: R, m, used, h => by have := h.1.2.2.1; omega
theorem eq_nn (W : World) : (binOp .eql 38 (.slice none 0 0) (.slice none 0 0)).run Tryz.prog W = .ok (.bool true) W := rfl
theorem eq_sn (a : Addr) (n c : Nat) (W : World) : (binOp .eql 38 (.slice (some a) n c) (.slice none 0 0)).run Tryz.prog W = .ok (.bool false) W := rfl
theorem usedF_snoc (A : List (List UInt8)) (b : List UInt8) : usedF (A ++ [b]) = usedF A + needF b.length := by simp [usedF]
theorem need_1 (n : Nat) : 1 ≤ needF n := by unfold needF; omega
theorem len_le_used (A : List (List UInt8)) : A.length ≤ usedF A := by
  induction A with
  | nil => exact Nat.zero_le _
  | cons b A ih => simp only [usedF, List.map_cons, List.sum_cons, List.length_cons] at ih ⊢; have := need_1 b.length; omega
set_option maxHeartbeats 8000000 in
theorem open_c (r g n k : Nat) (L : List UInt8) (E : List (List UInt8)) (w : World) (h : DiskI w r g n k L) (h4 : 4 ≤ n) (hN : nwF L = (1, 0, true)) (hE : Lays L n 0 0 E) : Calls Tryz.prog 39 #[rp r] w (OpnR w r g n k L E) := by
  have hA : areaF n ≤ 512 := by have := h.n0; unfold areaF; omega
  have H := Lib.hid (And.intro h (And.intro h4 (And.intro hN (And.intro hE hA))))
  clear h hN hE hA
  go_enter Tryz.func39, Tryz.ntmps39
  go_upto_region 4 with (go_at_call 33; apply Calls.mono; (· (with_reducible refine jUsable_c r g n k L _ ?_ ?_); (· exact H.out.1); (· exact h4)); rintro e w1 ⟨rfl, hw⟩; rw [hw]; clear hw w1)
  go_upto_region 9 with (go_at_call 34; apply Calls.mono; (· (with_reducible refine newest_1 r g n k L _ ?_ ?_ ?_); (· exact H.out.1); (· exact h4); (· exact H.out.2.2.1)); rintro e w1 ⟨rfl, b1⟩)
  have b := Blk.new w1 104 (jrV r (.slice none 0 0) 0)
  have hb1 : Below w1.heap.size w1 (w1.alloc (.cells (jrV r (.slice none 0 0) 0) 104)) := (Below.refl _ w1).alloc (Nat.le_refl _) _
  have hl1 : r < w.heap.size ∧ g < w.heap.size := ⟨H.out.1.b.lt, H.out.1.s.lt⟩
  have hs1 := b1.size
  have h0 : OpRel w w1.heap.size r g n k L E (w1.alloc (.cells (jrV r (.slice none 0 0) 0) 104)) :=
    ⟨[], E, rfl, H.out.2.2.2.1, ⟨⟨none, 0, b, RwI.nil _ _⟩, (H.out.1.below b1).below hb1, ⟨by omega, by omega⟩, ⟨fun h => h.2 rfl, fun h => by have := h.1; omega, fun h => by have := h.1; omega⟩⟩, hs1, b1.trans (hb1.mono hs1)⟩
  have H0 := Lib.hid (And.intro h0 hl1)
  clear b hb1 b1 hs1 hl1 h0
  go_upto_region 10 with (fail)
  generalize w1.heap.size = j at *
  go_loopw [10, 11, 36] (fun v10 v11 v36 wr => OpRel w j r g n k L E wr) (fun v10 v11 v36 wr => areaF n + 1 - usedOf (wr.cell? ⟨j, 4, none⟩))
  case atStart => exact H0.out.1
  case round =>
    obtain ⟨A, R, hAR, hLa, hJ, hjw, hB⟩ := hrel
    obtain ⟨⟨p, c, hblk, hrow⟩, hD, hne, hnp⟩ := hJ
    have hus := lays_used hLa
    have hlen := len_le_used A
    obtain ⟨U, hU⟩ : ∃ U, U = usedF A := ⟨_, rfl⟩
    rw [← hU] at hblk hus hlen hLa
    have c4 : wr.cell? ⟨j, 4, none⟩ = some (.int .i64 (U : Int)) := hblk.c 4
    have HA := Lib.hid (And.intro hAR (And.intro hblk (And.intro hrow (And.intro hD (And.intro hne (And.intro hnp (And.intro hB (And.intro hU (And.intro hlen (And.intro hus (And.intro hjw c4)))))))))))
    clear hAR hblk hrow hD hne hnp hB hU hlen hus c4
    cases R with
    | nil =>
      have HL := Lib.hid hLa
      clear hLa
      go_upto_region 11 with (go_at_call 72; apply Calls.mono; (· (with_reducible refine read_end_c j r g n k U A.length c p L _ ?_ ?_ ?_ ?_ ?_); (· exact HA.out.2.1); (· exact HA.out.2.2.2.1); (· exact h4); (· exact HL.out.1); (· exact HL.out.2)); rintro e w3 ⟨rfl, b3⟩)
      have hnn := eq_nn
      go_wp2
      go_ret2
      have hEA : E = A := by rw [HA.out.1, List.append_nil]
      have hO3 : Only (fun _ => False) wr w3 := Only.of_below b3
      refine ⟨j, rfl, ⟨⟨p, c, ?_, ?_⟩, HA.out.2.2.2.1.below b3, HA.out.2.2.2.2.1, HA.out.2.2.2.2.2.1⟩, hjw, HA.out.2.2.2.2.2.2.1.trans (b3.mono HA.out.2.2.2.2.2.2.1.size)⟩
      · rw [hEA, ← HA.out.2.2.2.2.2.2.2.1]; exact HA.out.2.1.below b3
      · rw [hEA]; exact HA.out.2.2.1.keep hO3 (fun _ _ h => h)
    | cons b R =>
      have HL := Lib.hid hLa
      clear hLa
      go_upto_region 11 with (go_at_call 72; apply Calls.mono; (· (with_reducible refine read_one_c j r g n k U A.length c b.length (needF b.length) (areaF n - U) (2 + U) p L b _ ?_ ?_ ?_ ?_ ?_ ?_ ?_ ?_ ?_ ?_ ?_ ?_); (· exact HA.out.2.1); (· exact HA.out.2.2.2.1); (· exact h4); (· rfl); (· rfl); (· exact HL.out.1.1); (· exact HL.out.1.2.1); (· exact HL.out.1.2.2.1); (· have := HA.out.2.2.2.2.2.2.2.2.1; have := HA.out.2.2.2.2.2.2.2.2.2.1; have := H.out.2.2.2.2; omega); (· rfl); (· rfl); (· exact HL.out.1.2.2.2)); rintro e w3 ⟨G, c3, rfl, hR3, hc3, hG3, b3⟩)
      have hns := eq_sn ⟨G, 18, none⟩ b.length c3
      have hblk3 := HA.out.2.1.below b3
      have hrow3 := HA.out.2.2.1.keep (Only.of_below b3 : Only (fun _ => False) wr w3) (fun _ _ h => h)
      have hD3 := HA.out.2.2.2.1.below b3
      have hB3 := HA.out.2.2.2.2.2.2.1.trans (b3.mono HA.out.2.2.2.2.2.2.1.size)
      have hGo : ∀ x, Value.ownBlock (.slice p A.length c) = some x → x < G := fun x hx => by have := (HA.out.2.2.1.ob x hx).2; omega
      have hjG : j < G := by have := HA.out.2.1.lt; omega
      have d3 : w3.cell? ⟨j, 3, none⟩ = some (.slice p A.length c) := hblk3.c 3
      have f3 := hblk3.fr 3
      have hwG : w.heap.size ≤ G := by have := HA.out.2.2.2.2.2.2.1.size; omega
      have hle := HA.out.2.2.2.2.2.2.2.2.1
      have hul := HA.out.2.2.2.2.2.2.2.2.2.1
      have ha512 := H.out.2.2.2.2
      have hAl : A.length ≤ 100000 := by omega
      have hba : ∀ o, Below w3.heap.size w3 (w3.alloc o) := fun o => (Below.refl _ _).alloc (Nat.le_refl _) _
      have hRa : Rd (w3.alloc (.cells #[.slice (some ⟨G, 18, none⟩) b.length c3] 38)) (fun x => (w.heap.size ≤ x ∧ x ≠ j) ∧ Value.ownBlock (.slice p A.length c) ≠ some x) (some ⟨G, 18, none⟩) b := (hR3.below (hba _)).mono (fun x _ hx => by cases hx; exact ⟨⟨hwG, by omega⟩, fun h => by have := hGo G h; omega⟩)
      have hjs : j < w3.heap.size := hblk3.lt
      have hcl : (w3.alloc (.cells #[.slice (some ⟨G, 18, none⟩) b.length c3] 38)).cell? ⟨w3.heap.size, 0, none⟩ = some (.slice (some ⟨G, 18, none⟩) b.length c3) := (Blk.new w3 38 #[.slice (some ⟨G, 18, none⟩) b.length c3]).c 0
      have hNw : w.heap.size ≤ (w3.alloc (.cells #[.slice (some ⟨G, 18, none⟩) b.length c3] 38)).heap.size ∧ (w3.alloc (.cells #[.slice (some ⟨G, 18, none⟩) b.length c3] 38)).heap.size ≠ j := by rw [World.size_alloc]; have := hB3.size; exact ⟨by omega, by omega⟩
      have H3 := Lib.hid (And.intro hblk3 (And.intro hrow3 (And.intro hD3 (And.intro hB3 (And.intro hRa (And.intro hcl (And.intro hNw (And.intro hc3 hAl))))))))
      clear hblk3 hrow3 hD3 hB3 hGo hjG hwG hle hul ha512 hAl hRa hjs hcl hNw hR3 hc3 hG3 b3
      go_upto_region 16 with (at_builtin; refine wpList_rows (b := b) rfl _ _ rfl (P := fun x => w.heap.size ≤ x ∧ x ≠ j) (fun x => w.heap.size ≤ x ∧ x ≠ j) rfl rfl (H3.out.2.1.keep (Only.of_below (hba _) : Only (fun _ => False) _ _) (fun _ _ h => h)) H3.out.2.2.2.2.2.1 H3.out.2.2.2.2.1 H3.out.2.2.2.2.2.2.2.1 H3.out.2.2.2.2.2.2.2.2 (fun x h => h) H3.out.2.2.2.2.2.2.1 ?_; intro p5 c5 w5 h5 hO5; have hown5 : ¬ Value.ownBlock (.slice p A.length c) = some j := (fun h => (H3.out.2.1.ob j h).1.2 rfl); have hb5 := (H3.out.1.below (hba (.cells #[.slice (some ⟨G, 18, none⟩) b.length c3] 38))).only hO5 hown5; have f5 := hb5.fr 3; have d5 : w5.cell? ⟨j, 3, none⟩ = some (.slice p A.length c) := hb5.c 3)
      refine wp_world (fun W => Blk W j 104 (jrV r (.slice p5 (A.length + 1) c5) U) ∧ RwI W (fun x => w.heap.size ≤ x ∧ x ≠ j) (.slice p5 (A.length + 1) c5) (A ++ [b]) ∧ DiskI W r g n k L ∧ Below w.heap.size w W) ?_ ?_
      · have hO6 : Only (fun x => x = j) w5 (w5.setCell ⟨j, 3, none⟩ (.slice p5 (A.length + 1) c5)) := (Only.refl (fun x => x = j) w5).setCell _ _ (.inl rfl)
        have hown : ∀ x, Value.ownBlock (.slice p A.length c) = some x → w.heap.size ≤ x := fun x hx => (H3.out.2.1.ob x hx).1.1
        have hD5 := (H3.out.2.2.1.below (hba _)).only hO5 (fun h => by have := hown r h; have := H0.out.2.1; omega) (fun h => by have := hown g h; have := H0.out.2.2; omega)
        have hB5 := below_only (H3.out.2.2.2.1.trans ((hba (.cells #[.slice (some ⟨G, 18, none⟩) b.length c3] 38)).mono H3.out.2.2.2.1.size)) (by rw [World.size_alloc]; have := H3.out.2.2.2.1.size; omega) hO5 (fun k hk e => by have := hown k e; omega)
        exact ⟨hb5.set 3 (.slice p5 (A.length + 1) c5), h5.keep hO6 (fun k hk e => hk.2 e), hD5.only hO6 (fun e => HA.out.2.2.2.2.1.1 e.symm) (fun e => HA.out.2.2.2.2.1.2 e.symm), below_only hB5 hB5.size hO6 (fun k hk e => by omega)⟩
      intro W hW
      have HW := Lib.hid hW
      clear hW h5 hO5 hown5 hb5 f5 d5 d3 f3 hns hba H3
      have hUb := HA.out.2.2.2.2.2.2.2.2.2.1
      have ha512 := H.out.2.2.2.2
      have hub := HL.out.1.2.2.1
      have hbl := HL.out.1.2.1
      refine wp_region_tail (S := fun wx => Below W.heap.size W wx) (n := 8) (by kernel_rfl) (by decide) ?_
      try simp only [List.drop_succ_cons, List.drop_zero]
      obtain ⟨u0, hu0⟩ : ∃ u, u = W.drew := ⟨_, rfl⟩
      have hS : Below W.heap.size W u0 := by rw [hu0]; exact (Below.refl _ _).drew
      rw [← hu0]
      clear hu0
      try simp only [Act.put]
      refine wpAnyT_take (i := 0) (oi := _) (v := (rp j)) rfl (by kernel_rfl) (fun _ _ _ h => h) (by kernel_rfl) (fun wq hq => rfl) hS ?_
      try simp only [List.getElem_toArray, List.getElem_cons_succ, List.getElem_cons_zero, Act.put, List.setIfInBounds_toArray, List.set_cons_zero, List.set_cons_succ]
      refine wpAnyT_take (i := 1) (oi := _) (v := (rp j)) rfl (by kernel_rfl) (fun _ _ _ h => h) (by kernel_rfl) (fun wq hq => rfl) hS ?_
      try simp only [List.getElem_toArray, List.getElem_cons_succ, List.getElem_cons_zero, Act.put, List.setIfInBounds_toArray, List.set_cons_zero, List.set_cons_succ]
      refine wpAnyT_take (i := 2) (oi := _) (v := (.pointer (some ⟨j, 4, none⟩))) rfl (by kernel_rfl) (fun _ _ _ h => h) (by kernel_rfl) (fun wq hq => by go_simp) hS ?_
      try simp only [List.getElem_toArray, List.getElem_cons_succ, List.getElem_cons_zero, Act.put, List.setIfInBounds_toArray, List.set_cons_zero, List.set_cons_succ]
      refine wpAnyT_take (i := 3) (oi := _) (v := (.int .i64 (U : Int))) rfl (by kernel_rfl) (fun _ _ _ h => h) (by kernel_rfl) (fun wq hq => by have h : wq.cell? ⟨j, 4, none⟩ = some (.int .i64 (U : Int)) := (HW.out.1.below hq).c 4; go_simp) hS ?_
      try simp only [List.getElem_toArray, List.getElem_cons_succ, List.getElem_cons_zero, Act.put, List.setIfInBounds_toArray, List.set_cons_zero, List.set_cons_succ]
      refine wpAnyT_take (i := 4) (oi := _) (v := (.slice (some ⟨G, 18, none⟩) b.length c3)) rfl (by kernel_rfl) (fun _ _ _ h => h) (by kernel_rfl) (fun wq hq => rfl) hS ?_
      try simp only [List.getElem_toArray, List.getElem_cons_succ, List.getElem_cons_zero, Act.put, List.setIfInBounds_toArray, List.set_cons_zero, List.set_cons_succ]
      refine wpAnyT_take (i := 5) (oi := _) (v := (.int .i64 (b.length : Int))) rfl (by kernel_rfl) (fun _ _ _ h => h) (by kernel_rfl) (fun wq hq => by go_simp) hS ?_
      try simp only [List.getElem_toArray, List.getElem_cons_succ, List.getElem_cons_zero, Act.put, List.setIfInBounds_toArray, List.set_cons_zero, List.set_cons_succ]
      refine wpAnyT_ready (rs := [6]) (by kernel_rfl) (by simp) ?_
      refine AllReadyT.cons rfl (by decide) (fun K hC => ?_) AllReadyT.nil
      go_simp
      go_wp2_with (go_at_call 73; apply Calls.mono; (· (with_reducible refine need_c b.length _ ?_); (· omega)); rintro e w7 ⟨rfl, hw⟩; rw [hw]; clear hw w7)
      refine hC.out _ _ hS ?_
      clear hC K
      try simp only [Act.put, List.setIfInBounds_toArray, List.set_cons_zero, List.set_cons_succ]
      have hsum : IntKind.i64.wrap ((U : Int) + ((needF b.length : Nat) : Int)) = ((U + needF b.length : Nat) : Int) := by rw [IntWalk.i64_in _ (by omega)]; omega
      refine wpAnyT_take (i := 7) (oi := _) (v := (.int .i64 ((U + needF b.length : Nat) : Int))) rfl (by kernel_rfl) (fun _ _ _ h => h) (by kernel_rfl) (fun wq hq => by go_simp) hS ?_
      try simp only [List.getElem_toArray, List.getElem_cons_succ, List.getElem_cons_zero, Act.put, List.setIfInBounds_toArray, List.set_cons_zero, List.set_cons_succ]
      clear hsum
      refine wpAnyT_tail (by kernel_rfl) ?_
      try simp only [List.getElem_toArray, List.getElem_cons_succ, List.getElem_cons_zero, Act.put, List.setIfInBounds_toArray, List.set_cons_zero, List.set_cons_succ]
      have hbW := HW.out.1.below hS
      have f4 := hbW.fr 4
      have d4 : u0.cell? ⟨j, 4, none⟩ = some (.int .i64 (U : Int)) := hbW.c 4
      go_wp2
      have hO9 : Only (fun x => x = j) u0 (u0.setCell ⟨j, 4, none⟩ (.int .i64 ((U + needF b.length : Nat) : Int))) := (Only.refl (fun x => x = j) u0).setCell _ _ (.inl rfl)
      have hb9 := hbW.set 4 (.int .i64 ((U + needF b.length : Nat) : Int))
      rw [jrV_set4] at hb9
      have hBz := HW.out.2.2.2.trans (hS.mono HW.out.2.2.2.size)
      have hus : usedF (A ++ [b]) = U + needF b.length := by rw [usedF_snoc, ← HA.out.2.2.2.2.2.2.2.1]
      have hc9 : (u0.setCell ⟨j, 4, none⟩ (.int .i64 ((U + needF b.length : Nat) : Int))).cell? ⟨j, 4, none⟩ = some (.int .i64 ((U + needF b.length : Nat) : Int)) := hb9.c 4
      refine ⟨⟨A ++ [b], R, ?_, ?_, ⟨⟨p5, c5, ?_, ?_⟩, ?_, HA.out.2.2.2.2.1, HA.out.2.2.2.2.2.1⟩, hjw, ?_⟩, ?_⟩
      · rw [HA.out.1]; simp
      · rw [hus, List.length_append]; exact HL.out.2
      · rw [hus, List.length_append]; exact hb9
      · rw [List.length_append]; exact (HW.out.2.1.keep (Only.of_below hS : Only (fun _ => False) _ _) (fun _ _ h => h)).keep hO9 (fun k hk e => hk.2 e)
      · exact (HW.out.2.2.1.below hS).only hO9 (fun e => HA.out.2.2.2.2.1.1 e.symm) (fun e => HA.out.2.2.2.2.1.2 e.symm)
      · exact below_only hBz hBz.size hO9 (fun k hk e => by omega)
      · rw [show (U : Int) + ((needF b.length : Nat) : Int) = ((U + needF b.length : Nat) : Int) from (Int.natCast_add _ _).symm, hc9, HA.out.2.2.2.2.2.2.2.2.2.2.2]
        have hn1 := need_1 b.length
        simp only [usedOf, Int.toNat_natCast]
        omega
end Go.Proofs.YtolgaapiedbkfaaGreat
/-
  The contracts of journal's may (of one entry) and Entries. Conditions: those of each theorem.
-/
namespace Go.Proofs.YtolgaapiedbkfaaGreat
open Go.RowKit Go.Kx
set_option linter.unusedVariables false
set_option linter.unusedSimpArgs false
set_option maxRecDepth 100000
set_option maxHeartbeats 4000000 in
theorem jMay_c (j r g n k used m c G : Nat) (p q : Option Addr) (kk cc M N : Nat) (L : List UInt8) (w : World) (hJ : Blk w j 104 (jrV r (.slice p m c) used)) (hD : DiskI w r g n k L) (h2 : 2 ≤ n) (hb : w.cell? ⟨G, 0, none⟩ = some (.slice q M cc)) (h1 : 1 ≤ M) (hM : M ≤ 4096) (hN : needF M = N) (hu : used + N ≤ areaF n) :
    Calls Tryz.prog 83 #[rp j, .slice (some ⟨G, 0, none⟩) 1 kk, .int .i64 (used : Int)] w fun e w' => e = .returned (.int .i64 0) ∧ w' = w := by
  have hn := hD.n0
  have hA : areaF n ≤ 512 := by unfold areaF; omega
  have c0 : w.cell? ⟨j, 0, none⟩ = some (rp r) := hJ.c 0
  have c5 : w.cell? ⟨j, 5, none⟩ = some (.bool false) := hJ.c 5
  have HD := Lib.hid (And.intro hD h2)
  have k5b : ((M : Int) == 0) = false := by simp; omega
  have k5 : ¬ ((M : Int) = 0) := by omega
  have k6 : ¬ ((4096 : Int) < (M : Int)) := by omega
  have kM := Lib.hid hM
  have kN := Lib.hid hN
  clear hJ hD hn
  go_enter Tryz.func83, Tryz.ntmps83
  go_wp2
  go_loopw [2, 8, 19] (fun v2 v8 v19 wr => wr = w ∧ ((v19 = .int .i64 0 ∧ v2 = .int .i64 (used : Int)) ∨ (v19 = .int .i64 1 ∧ v2 = .int .i64 ((used + N : Nat) : Int)))) (fun v2 v8 v19 _ => (1 - intOf v19).toNat)
  case atStart => exact ⟨rfl, .inl ⟨rfl, rfl⟩⟩
  case round =>
    obtain ⟨hwr, ⟨rfl, rfl⟩ | ⟨rfl, rfl⟩⟩ := hrel
    · subst hwr
      go_wp2_with (go_at_call 73; apply Calls.mono; (· (with_reducible refine need_c M _ ?_); (· have := kM.out; omega)); rintro e w4 ⟨rfl, hw4⟩; rw [hw4, kN.out]; clear hw4 w4)
      exact ⟨⟨by simp, .inr ⟨by simp, by simp⟩⟩, by simp [intOf]⟩
    · subst hwr
      have k7 : ¬ (((areaF n : Nat) : Int) < ((used + N : Nat) : Int)) := by omega
      have k7' : ¬ (areaF n < used + N) := by omega
      have k8 : ¬ (((areaF n : Nat) : Int) < (used : Int) + (N : Int)) := by omega
      go_wp2_with (go_at_call 85; apply Calls.mono; (· (with_reducible refine jSize_c r g n k L _ ?_ ?_); (· exact HD.out.1); (· exact HD.out.2)); rintro e w4 ⟨rfl, hw4⟩; rw [hw4]; clear hw4 w4)
      go_ret
      exact ⟨rfl, rfl⟩
theorem RwI.cell {w : World} {P : Nat → Prop} {p : Option Addr} {m c : Nat} {E : List (List UInt8)} (h : RwI w P (.slice p m c) E) (i : Nat) (hi : i < E.length) :
    ∃ g q cq, p = some ⟨g, 0, none⟩ ∧ w.cell? ⟨g, i, none⟩ = some (.slice (some q) (E[i]).length cq) ∧ Rd w P (some q) E[i] ∧ (E[i]).length ≤ cq ∧ P g := by
  obtain ⟨⟨xs, ho, hB⟩, hob⟩ := h
  obtain ⟨q, cq, h1, h2, h3⟩ := hB.2 i hi
  rcases ho.2 with ⟨hv, hx⟩ | ⟨g, cap, cur, hv, hrest⟩
  · cases hv
    omega
  · cases hv
    have hc := World.ownsRow.cells (w := w) (g := g) ho rfl i _ h1
    have e : (⟨g, 0, none⟩ : Addr).add i = ⟨g, i, none⟩ := by unfold Addr.add; split <;> simp_all
    rw [e] at hc
    exact ⟨g, q, cq, rfl, hc, h2.mono (fun _ _ hh => hh.1), h3, (hob g rfl).1⟩
def EnRel (w : World) (E : List (List UInt8)) (v3 v19 : Value) (wr : World) : Prop := ∃ i p c, v19 = .int .i64 ((i : Nat) : Int) ∧ v3 = .slice p i c ∧ i ≤ E.length ∧ RwI wr (fun x => w.heap.size ≤ x) (.slice p i c) (E.take i) ∧ Below w.heap.size w wr
/-- What Entries tells. -/
def EnR (w : World) (E : List (List UInt8)) (e : Ending) (w' : World) : Prop := ∃ p c, e = .returned (.slice p E.length c) ∧ RwI w' (fun x => w.heap.size ≤ x) (.slice p E.length c) E ∧ Below w.heap.size w w'
set_option maxHeartbeats 4000000 in
theorem entries_c (P : Nat → Prop) (j r g n k used : Nat) (L : List UInt8) (E : List (List UInt8)) (w : World) (h : JI w P j r g n k L E used) (hE : E.length ≤ 1000) (hb : ∀ b ∈ E, b.length ≤ 5000) : Calls Tryz.prog 40 #[rp j] w (EnR w E) := by
  obtain ⟨⟨p, c, hblk, hrow⟩, hD, hne, hnp⟩ := h
  have c3 : w.cell? ⟨j, 3, none⟩ = some (.slice p E.length c) := hblk.c 3
  have c5 : w.cell? ⟨j, 5, none⟩ = some (.bool false) := hblk.c 5
  have H := Lib.hid (And.intro hrow (And.intro hE hb))
  clear hblk hrow hD hne hnp hE hb
  go_enter Tryz.func40, Tryz.ntmps40
  go_wp2
  clear c3 c5
  go_loopw [3, 5, 19] (fun v3 v5 v19 wr => EnRel w E v3 v19 wr) (fun v3 v5 v19 _ => (E.length - (intOf v19).toNat))
  case atStart => exact ⟨0, none, 0, rfl, rfl, Nat.zero_le _, RwI.nil _ _, Below.refl _ _⟩
  case round =>
    obtain ⟨i, p3, c3, rfl, rfl, hi, hR, hB⟩ := hrel
    by_cases hlt : i < E.length
    · have hrw := H.out.1.keep (Only.of_below hB : Only (fun _ => False) w wr) (fun _ _ h => h)
      obtain ⟨g1, q, cq, rfl, hce, hre, hcq, _⟩ := hrw.cell i hlt
      have hEb := H.out.2.2 E[i] (List.getElem_mem hlt)
      have hEl := H.out.2.1
      have hst : E.take (i + 1) = E.take i ++ [E[i]] := List.take_succ_eq_append_getElem hlt
      have hti : (E.take i).length = i := by rw [List.length_take]; omega
      obtain ⟨b, hbe⟩ : ∃ b, b = E[i] := ⟨_, rfl⟩
      rw [← hbe] at hce hre hcq hEb hst
      have k1 : (i : Int) < (E.length : Int) := by omega
      have k0 : (0 : Int) ≤ (i : Int) := by omega
      have hA := Lib.hid (And.intro hR (And.intro hB (And.intro hre (And.intro hEb (And.intro hst hti)))))
      have hi1000 : i ≤ 1000 := by omega
      obtain ⟨EL, hEL⟩ : ∃ EL, EL = E.length := ⟨_, rfl⟩
      have HEL := Lib.hid (And.intro hEL hlt)
      clear hR hB hre hEb hst hti hrw hbe hcq
      have hba : ∀ (wx : World) o, Below wx.heap.size wx (wx.alloc o) := fun wx o => (Below.refl _ _).alloc (Nat.le_refl _) _
      go_wp2_with (first
        | (go_at_call 38; apply Calls.mono; (· (with_reducible refine clone_c P q b.length cq b _ ?_ ?_ ?_); (· exact hA.out.2.2.1); (· have := hA.out.2.2.2.1; omega); (· rfl)); rintro e w4 ⟨G, c4, rfl, hG1, hG2, hG3, hG4, hG5, b4⟩; have hR4 := hA.out.1.keep (Only.of_below (b4.trans ((hba w4 (.cells #[.slice (some ⟨G, 0, none⟩) b.length c4] 38)).mono b4.size)) : Only (fun _ => False) wr _) (fun _ _ h => h); have hBw := hA.out.2.1.size; have hGr : Rd (w4.alloc (.cells #[.slice (some ⟨G, 0, none⟩) b.length c4] 38)) (fun x => (w.heap.size ≤ x) ∧ Value.ownBlock (.slice p3 i c3) ≠ some x) (some ⟨G, 0, none⟩) b := (((OB.of_own hG5).1.rd.below (hba w4 _)).mono (fun x _ hx => by have hx2 := (OB.of_own hG5).2 x hx; exact ⟨by omega, fun h => by have := (hA.out.1.ob x h).2; omega⟩)); have hcl : (w4.alloc (.cells #[.slice (some ⟨G, 0, none⟩) b.length c4] 38)).cell? ⟨w4.heap.size, 0, none⟩ = some (.slice (some ⟨G, 0, none⟩) b.length c4) := (Blk.new w4 38 #[.slice (some ⟨G, 0, none⟩) b.length c4]).c 0; have hNw : w.heap.size ≤ (w4.alloc (.cells #[.slice (some ⟨G, 0, none⟩) b.length c4] 38)).heap.size := (by rw [World.size_alloc]; omega); have hL3 : (E.take i).length ≤ 100000 := (by rw [hA.out.2.2.2.2.2]; omega); have hBq := (hA.out.2.1.trans (b4.mono hA.out.2.1.size)).trans ((hba w4 (.cells #[.slice (some ⟨G, 0, none⟩) b.length c4] 38)).mono (by omega)); have H4 := Lib.hid (And.intro hR4 (And.intro hGr (And.intro hcl (And.intro hNw (And.intro hL3 (And.intro hBq hG3)))))); clear hR4 hGr hcl hNw hL3 hBq hG3)
        | (at_builtin; refine wpList_rows (b := b) (E := E.take i) rfl _ _ rfl (P := fun x => w.heap.size ≤ x) (fun x => w.heap.size ≤ x) rfl rfl H4.out.1 H4.out.2.2.1 H4.out.2.1 H4.out.2.2.2.2.2.2 H4.out.2.2.2.2.1 (fun x h => h) H4.out.2.2.2.1 ?_; intro p5 c5 w5 h5 hO5))
      have e2 : (E.take i).length + 1 = i + 1 := by rw [hA.out.2.2.2.2.2]
      rw [e2] at h5
      have hown : ∀ x, Value.ownBlock (.slice p3 i c3) = some x → w.heap.size ≤ x := fun x hx => (hA.out.1.ob x hx).1
      refine ⟨⟨i + 1, p5, c5, rfl, rfl, by have := HEL.out; omega, ?_, below_only H4.out.2.2.2.2.2.1 H4.out.2.2.2.2.2.1.size hO5 (fun k hk e => by have := hown k e; omega)⟩, by have := HEL.out; simp only [intOf]; omega⟩
      rw [hA.out.2.2.2.2.1]
      exact h5
    · obtain rfl : i = E.length := by omega
      have k1 : ¬ ((E.length : Int) < (E.length : Int)) := by omega
      go_wp2
      go_ret
      rw [List.take_length] at hR
      exact ⟨p3, c3, rfl, hR, hB⟩
end Go.Proofs.YtolgaapiedbkfaaGreat
/-
  A drawn region inside a round of a range over a function, by the rules of one outside: of any program. Conditions: no defer statement; nothing is let out.
-/
namespace Go.Kx
open Go.RowKit
theorem rows_wide {P : Program} {l n : Nat} {row : String} {args : Array Value} {w : World} {R : Value → World → Prop} (h : Rows P row args w R) : RowsIn (Fence.wide.inRound l) n P row args w R := fun c cs _ => by
  obtain ⟨v, w', hr, hs⟩ := h c cs
  exact ⟨v, w', hr, stepsIn_wide.2 hs⟩
theorem wpOpIn_of {P : Program} {ops : Array Oper} {Q : Exit → Act → World → Prop} {l n i : Nat} {K K' : Act → World → Prop} {a : Act} {w : World} (hnd : ∀ o ∈ ops.toList, ∀ c, o.op ≠ .defer c) (hL : ¬ LetsOut Q) (hK : ∀ a w, K a w → K' a w) (h : wpOp P ops Q i K a w) : wpOpIn (Fence.wide.inRound l) n P ops Q i K' a w := by
  unfold wpOp at h
  unfold wpOpIn
  cases ho : ops[i]? with
  | none => rw [ho] at h; exact hK _ _ h
  | some o =>
    rw [ho] at h
    dsimp only at h ⊢
    have hm : o ∈ ops.toList := by
      rw [Array.mem_toList_iff]
      exact Array.mem_of_getElem? ho
    split
    · rename_i hw
      rw [if_pos hw] at h
      have h1 : o.wp P a w K Q := h.resolve_right (fun hh => hL hh.2)
      refine ⟨fun _ _ => trivial, ?_⟩
      rw [Oper.semAt_eq _ _ o (hnd o hm)]
      unfold Oper.wp at h1
      generalize (execOp a.eval o).run P w = r at *
      cases r with
      | ok x w' =>
        cases x with
        | value v => exact hK _ _ h1
        | skip => exact hK _ _ h1
        | defer d => exact hK _ _ h1
        | enter f args =>
          rw [Oper.uponIn_enter]
          rw [Oper.upon_enter] at h1
          refine ⟨fun hd => by simp [Fence.wide, Fence.inRound] at hd, ?_⟩
          refine CallsIn.inRound l (callsIn_wide.2 (h1.mono ?_))
          intro e w'' he
          cases e with
          | returned v => exact hK _ _ he
          | panicked c => exact he
          | outgrown => exact he
        | row row args =>
          rw [Oper.uponIn_row]
          rw [Oper.upon_row] at h1
          refine ⟨fun hd => by simp [Fence.wide, Fence.inRound] at hd, rows_wide (h1.mono ?_)⟩
          intro v w'' he
          exact hK _ _ he
        | _ => simp only [Oper.upon] at h1
      | halt x w' => cases x <;> simp only [Oper.upon, Oper.uponIn] at h1 ⊢ <;> exact h1
    · rename_i hw
      rw [if_neg hw] at h
      exact ⟨fun _ _ => trivial, hK _ _ h⟩
theorem wpAnyIn_of {P : Program} {md : Region.Mode} {ops : Array Oper} {Q : Exit → Act → World → Prop} {l n : Nat} (hnd : ∀ o ∈ ops.toList, ∀ c, o.op ≠ .defer c) (hL : ¬ LetsOut Q) : ∀ (fuel : Nat) (listed : Array Bool) (a : Act) (w : World), wpAny P md ops Q fuel listed a w → wpAnyIn (Fence.wide.inRound l) n P md ops Q fuel listed a w
  | 0, _, _, _, h => h
  | fuel + 1, _, _, _, h => ⟨h.1, fun i hi => wpOpIn_of hnd hL (fun a w hh => wpAnyIn_of hnd hL fuel _ a w hh) (h.2 i hi)⟩
/-- Such a region, some operations of which are its tail. -/
theorem wpIn_region_tail {P : Program} {l : List Oper} {Q : Exit → Act → World → Prop} {id lp k : Nat} {a : Act} {w : World} (S : World → Prop) (n : Nat) (hm : P.follows .mixedOrders = true) (hn : n ≤ l.length) (hnd : ∀ o ∈ l, ∀ c, o.op ≠ .defer c) (hL : ¬ LetsOut Q)
    (h : wpAnyT P .any l.toArray Q S n (TailT P l.toArray Q n (l.drop n)) n (Array.replicate l.toArray.size false) a w.drew) : (Code.region id l.toArray true).wpIn (Fence.wide.inRound lp) k P Q a w := by
  refine wpIn_region_any hm (wpAnyIn_of (by simpa using hnd) hL _ _ _ _ ?_)
  have hdl : (l.drop n).length = l.toArray.size - n := by simp
  have := wpAny_of_T (g := l.toArray.size - n) (fun listed a' w' hT => by
    have := wpAny_of_seq (md := .any) (Q' := Q) (l.drop n) n listed a' w' (fun j => by simp [List.getElem?_drop]) hT.1 hT.2
    rwa [hdl] at this) _ _ _ _ h
  have e : n + (l.toArray.size - n) = l.toArray.size := by simp; omega
  rw [e] at this
  exact this
end Go.Kx
