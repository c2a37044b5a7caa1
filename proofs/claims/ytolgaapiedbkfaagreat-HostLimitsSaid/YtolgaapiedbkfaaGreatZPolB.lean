/-
  The contract of poly's times. No condition.
-/
import Derived.Test.YtolgaapiedbkfaaGreatZg4
namespace Go.Proofs.YtolgaapiedbkfaaGreat
open Go.RowKit Go.Kx
set_option linter.unusedVariables false
set_option linter.unusedSimpArgs false
set_option maxRecDepth 100000
attribute [local go_sem ↓] D_add D_mul D_xor D_or D_and D_not D_sub D_lss D_eql D_neq
attribute [local go_sem ↓] D_guard1 D_guard2
attribute [local go_sem ↓] exec_stD
attribute [local go_sem] D_cells D_one D_store st1_D

attribute [local go_sem ↓] D_shl D_shr
theorem D_andNot {P : Program} {w : World} {t : TypeId} {x y : UInt64} : (binOp .andNot t (D x) (D y)).run P w = .ok (D (x &&& ~~~y)) w := by
  show Sem.run P (pure (Value.int .u64 (IntKind.u64.wrap (((BitVec.ofInt 64 (x.toNat : Int) &&& ~~~(BitVec.ofInt 64 (y.toNat : Int))) : BitVec 64).toNat : Int)))) w = _
  rw [ofInt64, ofInt64, wrap_u64, Nat.mod_eq_of_lt (x.toBitVec &&& ~~~y.toBitVec).isLt]
  rfl
theorem run_ldN3 {ρ : Operand → Value} {dst : Option Tmp} {x : Operand} {ty : TypeId} {pos : String} {after : Array Edge} {gd : Option (Nat × Bool)} {w : World} {g : Nat} {h : N3} (hg : ArrN w g h) (hx : ρ x = .pointer (some ⟨g, 0, none⟩)) :
    (execOp ρ ⟨dst, .load 256 x, ty, pos, after, gd⟩).run Tryz.prog w = .ok (.value (.agg (n3V h))) w := by
  unfold execOp
  simp only [hx, Instr.loadAt, Instr.sureAddr, Sem.run_bind, Sem.run_pure, Result.andThen_ok, run_loadVar_row w g 256 256 (n3V h) (0, 0) _ hg Tryz.underlying256 rfl Tryz.infoN3]
theorem wide_0 (lo : UInt64) (a b : UInt64) (hi : Value) (l : Value) (w : World) (h1 : hi = D 0) (h2 : l = D lo) : Calls Tryz.prog 176 #[hi, l, D a, D b] w fun e w' => e = .returned (.tuple #[D (wideH 0 lo a b), D (wideL lo a b)]) ∧ w' = w := by
  subst h1 h2
  exact wide_c 0 lo a b w
set_option maxHeartbeats 8000000 in
theorem times_c (h : N3) (r0 r1 : UInt64) (w : World) : Calls Tryz.prog 166 #[.agg (n3V h), D r0, D r1] w (BackR w (.agg (n3V (timesF h r0 r1)))) := by
  have hsz : (n3V h).size = 3 := rfl
  go_enter Tryz.func166, Tryz.ntmps166
  go_upto_region 1 with (fail)
  have hI : ArrN ((w.alloc (.cells (n3V h) 256)).alloc (.cells #[.int .u64 0, .int .u64 0, .int .u64 0] 256)) w.heap.size h ∧ ArrN ((w.alloc (.cells (n3V h) 256)).alloc (.cells #[.int .u64 0, .int .u64 0, .int .u64 0] 256)) (w.heap.size + 1) ⟨0, 0, 0⟩ ∧ Below w.heap.size w ((w.alloc (.cells (n3V h) 256)).alloc (.cells #[.int .u64 0, .int .u64 0, .int .u64 0] 256)) := by
    have a2 := ArrN.new (w.alloc (.cells (n3V h) 256)) ⟨0, 0, 0⟩
    rw [World.size_alloc] at a2
    exact ⟨(ArrN.new w h).below ((Below.refl _ _).alloc (Nat.le_refl _) _), a2, ((Below.refl _ w).alloc (Nat.le_refl _) _).alloc (by simp) _⟩
  refine wp_world (fun W => ArrN W w.heap.size h ∧ ArrN W (w.heap.size + 1) ⟨0, 0, 0⟩ ∧ Below w.heap.size w W) hI ?_
  clear hI
  intro W hI
  have c0 := hI.1.c0
  have c1 := hI.1.c1
  have c2 := hI.1.c2
  have HI := Lib.hid hI
  clear hI
  have a1 : ∀ wx, (callFunc 175 #[D (tm1l h r0 r1), D (mulhi h.a r0), .int .u64 0]).run Tryz.prog wx = .ok (.value (.tuple #[D (tm1l h r0 r1 + mulhi h.a r0), D (tmc1 h r0 r1)])) wx := fun wx => by
    have h := add64_D (tm1l h r0 r1) (mulhi h.a r0) 0 (by decide) wx
    rw [UInt64.add_zero] at h
    exact h
  have l1 : (tmc1 h r0 r1).toNat ≤ 1 := cy_le _ _ _ (by decide)
  have a2 : ∀ wx, (callFunc 175 #[D (tm2l h r0 r1), D (tm1h h r0 r1), D (tmc1 h r0 r1)]).run Tryz.prog wx = .ok (.value (.tuple #[D (tmt2 h r0 r1), D (tmc2 h r0 r1)])) wx := fun wx => add64_D _ _ _ l1 wx
  have l2 : (tmc2 h r0 r1).toNat ≤ 1 := cy_le _ _ _ l1
  have a3 : ∀ wx, (callFunc 175 #[D (h.c * r1), D (tm2h h r0 r1), D (tmc2 h r0 r1)]).run Tryz.prog wx = .ok (.value (.tuple #[D (tmt3 h r0 r1), D (cy (h.c * r1) (tm2h h r0 r1) (tmc2 h r0 r1))])) wx := fun wx => add64_D _ _ _ l2 wx
  have A := Lib.hid (And.intro a1 (And.intro a2 a3))
  clear a1 a2 a3 l1 l2
  go_upto_region 2 with (go_at_call 170; refine (mul64_c h.a r0 _).mono ?_; rintro e w' ⟨rfl, rfl⟩)
  go_upto_region 3 with (go_at_call 176; refine (wide_0 0 h.a r1 _ _ _ rfl rfl).mono ?_; rintro e w' ⟨rfl, rfl⟩)
  go_upto_region 4 with (go_at_call 176; refine (wide_c (wideH 0 0 h.a r1) (wideL 0 h.a r1) h.b r0 _).mono ?_; rintro e w' ⟨rfl, rfl⟩)
  go_upto_region 5 with (go_at_call 176; refine (wide_0 0 h.b r1 _ _ _ rfl rfl).mono ?_; rintro e w' ⟨rfl, rfl⟩)
  go_upto_region 6 with (go_at_call 176; refine (wide_c (wideH 0 0 h.b r1) (wideL 0 h.b r1) h.c r0 _).mono ?_; rintro e w' ⟨rfl, rfl⟩)
  rw [show wideH (wideH 0 0 h.a r1) (wideL 0 h.a r1) h.b r0 = tm1h h r0 r1 from rfl, show wideL (wideL 0 h.a r1) h.b r0 = tm1l h r0 r1 from rfl, show wideH (wideH 0 0 h.b r1) (wideL 0 h.b r1) h.c r0 = tm2h h r0 r1 from rfl, show wideL (wideL 0 h.b r1) h.c r0 = tm2l h r0 r1 from rfl]
  have a1 := A.out.1
  have a2 := A.out.2.1
  have a3 := A.out.2.2
  clear A
  go_upto_region 11 with (fail)
  clear a1 a2 a3
  have n1 : ∀ wx, (binOp .and 35 (D (tmt2 h r0 r1)) (.int .u64 3)).run Tryz.prog wx = .ok (D (tmt2 h r0 r1 &&& 3)) wx := fun wx => D_and (P := Tryz.prog) (w := wx) (t := 35) (x := tmt2 h r0 r1) (y := 3)
  have n2 : ∀ wx, (binOp .andNot 35 (D (tmt2 h r0 r1)) (.int .u64 3)).run Tryz.prog wx = .ok (D (tmt2 h r0 r1 &&& ~~~3)) wx := fun wx => D_andNot (P := Tryz.prog) (w := wx) (t := 35) (x := tmt2 h r0 r1) (y := 3)
  obtain ⟨W, hWw⟩ : ∃ W, W = w' := ⟨_, rfl⟩
  rw [← hWw] at HI ⊢
  clear hWw c0 c1 c2
  go_upto_region 12 with (first
    | (refine bld_n3 rfl (.tmp 87) (.tmp 88) (.tmp 90) rfl (h.a * r0) (tm1l h r0 r1 + mulhi h.a r0) (tmt2 h r0 r1 &&& 3) rfl rfl rfl ?_)
    | (refine st_n3 rfl (.tmp 20) (.tmp 91) rfl W.heap.size ⟨h.a * r0, tm1l h r0 r1 + mulhi h.a r0, tmt2 h r0 r1 &&& 3⟩ rfl rfl ⟨0, 0, 0⟩ (ArrN.new W ⟨0, 0, 0⟩) ?_; intro wa hAa hOa))
  have hba : Below W.heap.size W wa := below_only ((Below.refl _ _).alloc (Nat.le_refl _) _) (by rw [World.size_alloc]; omega) hOa (fun k hk e => by omega)
  go_upto_region 13 with (first
    | (refine bld_n3 rfl (.tmp 93) (.tmp 94) (.const (.int .u64 0)) rfl (tmt2 h r0 r1 &&& ~~~3) (tmt3 h r0 r1) 0 rfl rfl rfl ?_)
    | (refine st_n3 rfl (.tmp 21) (.tmp 95) rfl wa.heap.size (tmOver h r0 r1) rfl rfl ⟨0, 0, 0⟩ (ArrN.new wa ⟨0, 0, 0⟩) ?_; intro wb hAb hOb))
  have hbb : Below wa.heap.size wa wb := below_only ((Below.refl _ _).alloc (Nat.le_refl _) _) (by rw [World.size_alloc]; omega) hOb (fun k hk e => by omega)
  have c0 := hAb.c0
  have c1 := hAb.c1
  generalize hX2 : tmOver h r0 r1 = X2 at hAb c0 c1
  go_upto_region 14 with (first
    | (refine bld_n3 rfl (.tmp 102) (.tmp 105) (.const (.int .u64 0)) rfl (shr64 X2.a 2 ||| shl64 X2.b 62) (shr64 X2.b 2) 0 rfl rfl rfl ?_)
    | (refine st_n3 rfl (.tmp 22) (.tmp 106) rfl wb.heap.size ⟨shr64 X2.a 2 ||| shl64 X2.b 62, shr64 X2.b 2, 0⟩ rfl rfl ⟨0, 0, 0⟩ (ArrN.new wb ⟨0, 0, 0⟩) ?_; intro wc hAc hOc))
  have hbc : Below wb.heap.size wb wc := below_only ((Below.refl _ _).alloc (Nat.le_refl _) _) (by rw [World.size_alloc]; omega) hOc (fun k hk e => by omega)
  simp only [Act.put]
  have hX2' : plusF (plusF ⟨h.a * r0, tm1l h r0 r1 + mulhi h.a r0, tmt2 h r0 r1 &&& 3⟩ X2) ⟨shr64 X2.a 2 ||| shl64 X2.b 62, shr64 X2.b 2, 0⟩ = timesF h r0 r1 := by rw [← hX2]; rfl
  generalize (⟨h.a * r0, tm1l h r0 r1 + mulhi h.a r0, tmt2 h r0 r1 &&& 3⟩ : N3) = X1 at hAa hX2'
  generalize (⟨shr64 X2.a 2 ||| shl64 X2.b 62, shr64 X2.b 2, 0⟩ : N3) = X3 at hAc hX2'
  have hS : ArrN wc W.heap.size X1 ∧ ArrN wc wa.heap.size X2 ∧ ArrN wc wb.heap.size X3 := ⟨(hAa.below hbb).below hbc, hAb.below hbc, hAc⟩
  have hZ : ArrN wc (w.heap.size + 1) ⟨0, 0, 0⟩ ∧ Below w.heap.size w wc := ⟨((HI.out.2.1.below hba).below hbb).below hbc, ((HI.out.2.2.trans (hba.mono HI.out.2.2.size)).trans (hbb.mono (Nat.le_trans HI.out.2.2.size hba.size))).trans (hbc.mono (Nat.le_trans (Nat.le_trans HI.out.2.2.size hba.size) hbb.size))⟩
  have HX := Lib.hid (And.intro hX2' hZ)
  clear c0 c1 hAa hAb hAc hOa hOb hOc hba hbb hbc HI hX2 hX2' hZ n1 n2
  generalize W.heap.size = B1 at *
  generalize wa.heap.size = B2 at *
  generalize wb.heap.size = B3 at *
  refine wp_region_tail (S := fun wx => ArrN wx B1 X1 ∧ ArrN wx B2 X2 ∧ ArrN wx B3 X3) (n := 5) (by kernel_rfl) (by decide) ?_
  try simp only [List.drop_succ_cons, List.drop_zero]
  obtain ⟨u0, hu0⟩ : ∃ u, u = wc.drew := ⟨_, rfl⟩
  have hbd : Below wc.heap.size wc u0 := by rw [hu0]; exact (Below.refl _ _).drew
  have hS0 : ArrN u0 B1 X1 ∧ ArrN u0 B2 X2 ∧ ArrN u0 B3 X3 := ⟨hS.1.below hbd, hS.2.1.below hbd, hS.2.2.below hbd⟩
  rw [← hu0]
  clear hu0 hS
  refine wpAnyT_take (i := 0) (oi := _) (v := .agg (n3V X1)) rfl (by kernel_rfl) (fun _ _ _ h => h) (by kernel_rfl) (fun wq hq => run_ldN3 hq.1 rfl) hS0 ?_
  try simp only [Act.put, List.setIfInBounds_toArray, List.set_cons_zero, List.set_cons_succ]
  refine wpAnyT_take (i := 1) (oi := _) (v := .agg (n3V X2)) rfl (by kernel_rfl) (fun _ _ _ h => h) (by kernel_rfl) (fun wq hq => run_ldN3 hq.2.1 rfl) hS0 ?_
  try simp only [Act.put, List.setIfInBounds_toArray, List.set_cons_zero, List.set_cons_succ]
  refine wpAnyT_take (i := 3) (oi := _) (v := .agg (n3V X3)) rfl (by kernel_rfl) (fun _ _ _ h => h) (by kernel_rfl) (fun wq hq => run_ldN3 hq.2.2 rfl) hS0 ?_
  try simp only [Act.put, List.setIfInBounds_toArray, List.set_cons_zero, List.set_cons_succ]
  refine wpAnyT_ready (rs := [2]) (by kernel_rfl) (by simp) ?_
  refine AllReadyT.cons rfl (by decide) (fun K hK => ?_) ?_
  · go_simp
    go_wp2_with (go_at_call 164; refine (plus_c X1 X2 _).mono ?_; rintro e u1 ⟨rfl, hb1⟩)
    have hS1 : ArrN u1 B1 X1 ∧ ArrN u1 B2 X2 ∧ ArrN u1 B3 X3 := ⟨hS0.1.below hb1, hS0.2.1.below hb1, hS0.2.2.below hb1⟩
    refine hK.out _ _ hS1 ?_
    clear hK K
    try simp only [Act.put, List.setIfInBounds_toArray, List.set_cons_zero, List.set_cons_succ]
    refine wpAnyT_ready (rs := [4]) (by kernel_rfl) (by simp) ?_
    refine AllReadyT.cons rfl (by decide) (fun K hK => ?_) ?_
    · go_simp
      go_wp2_with (go_at_call 164; refine (plus_c (plusF X1 X2) X3 _).mono ?_; rintro e u2 ⟨rfl, hb2⟩)
      refine hK.out _ _ ⟨hS1.1.below hb2, hS1.2.1.below hb2, hS1.2.2.below hb2⟩ ?_
      clear hK K
      try simp only [Act.put, List.setIfInBounds_toArray, List.set_cons_zero, List.set_cons_succ]
      have hZ2 : ArrN u2 (w.heap.size + 1) ⟨0, 0, 0⟩ := ((HX.out.2.1.below hbd).below hb1).below hb2
      have hZb : Below w.heap.size w u2 := ((HX.out.2.2.trans (hbd.mono HX.out.2.2.size)).trans (hb1.mono (Nat.le_trans HX.out.2.2.size hbd.size))).trans (hb2.mono (Nat.le_trans (Nat.le_trans HX.out.2.2.size hbd.size) hb1.size))
      refine wpAnyT_tail (by kernel_rfl) ?_
      go_wp2_with (refine st_n3 rfl (.tmp 6) (.tmp 111) rfl (w.heap.size + 1) (plusF (plusF X1 X2) X3) rfl rfl ⟨0, 0, 0⟩ hZ2 ?_; intro u3 hA3 hO3)
      refine bodyPost_ret (v := .agg (n3V (plusF (plusF X1 X2) X3))) (results_cell_row (P := Tryz.prog) Tryz.results166 _ _ (w.heap.size + 1) _ _ _ _ rfl hA3 Tryz.underlying256 rfl Tryz.infoN3) rfl (And.intro ?_ ?_)
      · rw [HX.out.1]
      · exact below_only hZb hZb.size hO3 (fun k hk e => by omega)
    · exact AllReadyT.nil
  · exact AllReadyT.nil
end Go.Proofs.YtolgaapiedbkfaaGreat
