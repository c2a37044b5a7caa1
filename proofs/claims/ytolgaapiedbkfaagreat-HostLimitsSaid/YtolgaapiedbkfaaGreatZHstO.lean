/-
  Recover's finder: what it has; an entry that tells that a connection began. Conditions: those of each theorem.
-/
import Derived.Test.YtolgaapiedbkfaaGreatZg10
import Derived.Test.YtolgaapiedbkfaaGreatZHstF
import Derived.Test.YtolgaapiedbkfaaGreatZg6
namespace Go.Kx
open Go.RowKit
def HeapIs (w : World) (b : Nat) (M : Obj) : Prop := w.heap[b]? = some M
theorem HeapIs.lt {w : World} {b : Nat} {M : Obj} (h : HeapIs w b M) : b < w.heap.size := (Array.getElem?_eq_some_iff.1 h).1
theorem HeapIs.only {w w' : World} {q : Nat → Prop} {b : Nat} {M : Obj} (h : HeapIs w b M) (ho : Only q w w') (hq : ¬ q b) : HeapIs w' b M := (ho.block b h.lt hq).trans h
theorem step_mapEntry {P : Program} {ops : Array Oper} {w : World} {o : Oper} {a : Act} {K : Act → World → Prop} {Q : Exit → Act → World → Prop} {E : Prop} (hgd : o.guard = none) (m x : Operand) {t : TypeId}
    (ho : o.op = .mapEntry t m x) (vm vx : Value) (hm : a.eval m = vm) (hx : a.eval x = vx) {v : Value} {w' : World} (hr : (Instr.mapEntry t vm vx).run P w = .ok v w') (h : K (a.put o.dst v) w') :
    if Region.wanted o (yielded ops a.tmps) = true then Oper.wp P o a w K Q else E := by
  have hw : Region.wanted o (yielded ops a.tmps) = true := by simp [Region.wanted, hgd]
  rw [if_pos hw]
  unfold Oper.wp
  simp [execOp, ho, hm, hx, hr, Result.andThen]
  exact h
theorem step_entryStore {P : Program} {ops : Array Oper} {w : World} {o : Oper} {a : Act} {K : Act → World → Prop} {Q : Exit → Act → World → Prop} {E : Prop} (hgd : o.guard = none) (m s x : Operand) {t : TypeId}
    (ho : o.op = .entryStore t m s x) (vm vs vx : Value) (hm : a.eval m = vm) (hs : a.eval s = vs) (hx : a.eval x = vx) {w' : World} (hr : (Instr.entryStore t vm vs vx).run P w = .ok () w') (h : K (a.put o.dst undef) w') :
    if Region.wanted o (yielded ops a.tmps) = true then Oper.wp P o a w K Q else E := by
  have hw : Region.wanted o (yielded ops a.tmps) = true := by simp [Region.wanted, hgd]
  rw [if_pos hw]
  unfold Oper.wp
  simp [execOp, ho, hm, hs, hx, hr, Result.andThen]
  exact h
theorem wpList_entryStore {P : Program} {ops : Array Oper} {rest : List Oper} {w : World} {o : Oper} {a : Act} {Q : Exit → Act → World → Prop} (hgd : o.guard = none) (m s x : Operand) {t : TypeId}
    (ho : o.op = .entryStore t m s x) (vm vs vx : Value) (hm : a.eval m = vm) (hs : a.eval s = vs) (hx : a.eval x = vx) {w' : World} (hr : (Instr.entryStore t vm vs vx).run P w = .ok () w') (h : wpList P ops Q rest (a.put o.dst undef) w') :
    wpList P ops Q (o :: rest) a w := by
  refine wpList_plain hgd fun K hK => ?_
  unfold Oper.wp
  simp [execOp, ho, hm, hs, hx, hr, Result.andThen]
  exact hK _ _ h
end Go.Kx
namespace Go.Proofs.YtolgaapiedbkfaaGreat
open Go.RowKit Go.Kx Go.Maps
open Go.ChangeMaps (setBlock)
set_option linter.unusedVariables false
set_option linter.unusedSimpArgs false
set_option maxRecDepth 100000
/-- A finder, its process, their maps. -/
structure FI (w : World) (F h mc mh ml md j : Nat) (cnt cnts : Nat) (f : Int → Option Nat) (nc nh nl nd : Nat) (gh gl gd : Int → Bool) : Prop where
  fb : Blk w F 109 #[rp h, .map (some ml), .map (some md)]
  hb : ∃ ch, Blk w h 64 (hoV j ch tkF mc mh cnt cnts (.slice none 0 0) false)
  c : CnS w mc f nc
  dh : BmS w mh nh gh
  dl : BmS w ml nl gl
  dd : BmS w md nd gd
  ne : F ≠ h ∧ F ≠ mc ∧ F ≠ mh ∧ F ≠ ml ∧ F ≠ md ∧ h ≠ mc ∧ h ≠ mh ∧ h ≠ ml ∧ h ≠ md ∧ mc ≠ mh ∧ mc ≠ ml ∧ mc ≠ md ∧ mh ≠ ml ∧ mh ≠ md ∧ ml ≠ md
theorem FI.only {w w' : World} {q : Nat → Prop} {F h mc mh ml md j cnt cnts nc nh nl nd : Nat} {f : Int → Option Nat} {gh gl gd : Int → Bool} (hi : FI w F h mc mh ml md j cnt cnts f nc nh nl nd gh gl gd) (ho : Only q w w') (hq : ¬ q F ∧ ¬ q h ∧ ¬ q mc ∧ ¬ q mh ∧ ¬ q ml ∧ ¬ q md) : FI w' F h mc mh ml md j cnt cnts f nc nh nl nd gh gl gd := by
  obtain ⟨h1, ⟨ch, h2⟩, h3, h4, h5, h6, h7⟩ := hi
  exact ⟨h1.only ho hq.1, ⟨ch, h2.only ho hq.2.1⟩, h3.only ho hq.2.2.1, h4.only ho hq.2.2.2.1, h5.only ho hq.2.2.2.2.1, h6.only ho hq.2.2.2.2.2, h7⟩
theorem FI.below {w w' : World} {F h mc mh ml md j cnt cnts nc nh nl nd : Nat} {f : Int → Option Nat} {gh gl gd : Int → Bool} (hi : FI w F h mc mh ml md j cnt cnts f nc nh nl nd gh gl gd) (hb : Below w.heap.size w w') : FI w' F h mc mh ml md j cnt cnts f nc nh nl nd gh gl gd :=
  hi.only (Only.of_below hb : Only (fun _ => False) w w') ⟨fun h => h, fun h => h, fun h => h, fun h => h, fun h => h, fun h => h⟩
theorem FI.g {w : World} {F h mc mh ml md j cnt cnts nc nh nl nd : Nat} {f : Int → Option Nat} {gh gl gd : Int → Bool} (hi : FI w F h mc mh ml md j cnt cnts f nc nh nl nd gh gl gd) :
    w.cell? ⟨F, 0, none⟩ = some (rp h) ∧ w.cell? ⟨F, 1, none⟩ = some (.map (some ml)) ∧ w.cell? ⟨F, 2, none⟩ = some (.map (some md)) ∧ w.cell? ⟨h, 68, none⟩ = some (.map (some mc)) ∧ w.cell? ⟨h, 69, none⟩ = some (.map (some mh)) ∧ w.cell? ⟨h, 70, none⟩ = some (.int .i64 (cnt : Int)) ∧ w.cell? ⟨h, 71, none⟩ = some (.int .i64 (cnts : Int)) ∧ w.cell? ⟨h, 73, none⟩ = some (.bool false) := by
  obtain ⟨ch, hb⟩ := hi.hb
  obtain ⟨g0, g1, g2, g3, g4, g5, g6, g7⟩ := hoV_get j ch tkF tkF_len mc mh cnt cnts (.slice none 0 0) false
  exact ⟨hi.fb.c 0, hi.fb.c 1, hi.fb.c 2, (hb.c 68).trans g2, (hb.c 69).trans g3, (hb.c 70).trans g4, (hb.c 71).trans g5, (hb.c 73).trans g7⟩
theorem FI.lt {w : World} {F h mc mh ml md j cnt cnts nc nh nl nd : Nat} {f : Int → Option Nat} {gh gl gd : Int → Bool} (hi : FI w F h mc mh ml md j cnt cnts f nc nh nl nd gh gl gd) : F < w.heap.size ∧ h < w.heap.size ∧ mc < w.heap.size ∧ mh < w.heap.size ∧ ml < w.heap.size ∧ md < w.heap.size := by
  obtain ⟨ch, hb⟩ := hi.hb
  exact ⟨hi.fb.lt, hb.lt, hi.c.lt, hi.dh.lt, hi.dl.lt, hi.dd.lt⟩
theorem uint_14 (r g : Nat) (t : List UInt8) (w : World) (h : Cur w r g (4 :: t) 0) : Calls Tryz.prog 75 #[rp r, .int .i64 1] w fun e w' => e = .returned (.int .i64 4) ∧ Cur w' r g t 0 ∧ Only (· = r) w w' := uint_be r g 4 1 t w (by decide) (by decide) h
theorem uint_12 (r g : Nat) (t : List UInt8) (w : World) (h : Cur w r g (2 :: t) 0) : Calls Tryz.prog 75 #[rp r, .int .i64 1] w fun e w' => e = .returned (.int .i64 2) ∧ Cur w' r g t 0 ∧ Only (· = r) w w' := uint_be r g 2 1 t w (by decide) (by decide) h
theorem uint_13 (r g : Nat) (t : List UInt8) (w : World) (h : Cur w r g (3 :: t) 0) : Calls Tryz.prog 75 #[rp r, .int .i64 1] w fun e w' => e = .returned (.int .i64 3) ∧ Cur w' r g t 0 ∧ Only (· = r) w w' := uint_be r g 3 1 t w (by decide) (by decide) h
theorem done_0 (r g : Nat) (w : World) (hr : Cur w r g [] 0) : Calls Tryz.prog 82 #[rp r] w fun e w' => e = .returned (.int .i64 0) ∧ w' = w := (done_c r g [] 0 w hr).mono fun e w' h => ⟨h.1, h.2.symm⟩
/-- What entry tells of a connection that began. -/
def EbR (F h mc mh ml md j cnt cnts nc nh nl nd : Nat) (f : Int → Option Nat) (gh gl gd : Int → Bool) (c : Nat) (w : World) (e : Ending) (w' : World) : Prop :=
  e = .returned (.bool true) ∧ ∃ b, w.heap.size ≤ b ∧ FI w' F h mc mh ml md j cnt cnts (updF f (c : Int) (some b)) (nc + 1) (nh + 1) nl nd (updB gh (c : Int) true) gl gd ∧ Blk w' b 74 coV ∧ Only (fun x => x = mh ∨ x = mc) w w'
set_option maxHeartbeats 8000000 in
theorem entry_begun (F h mc mh ml md j cnt cnts nc nh nl nd : Nat) (f : Int → Option Nat) (gh gl gd : Int → Bool) (c cp : Nat) (T : Nat → Prop) (q : Addr) (w : World) (hi : FI w F h mc mh ml md j cnt cnts f nc nh nl nd gh gl gd) (hR : Rd w T (some q) (4 :: be c 2)) (hc : c ≤ 65535) (hf : f (c : Int) = none) (hn : nc ≤ 1000 ∧ nh ≤ 1000) :
    Calls Tryz.prog 41 #[rp F, .slice (some q) 3 cp] w (EbR F h mc mh ml md j cnt cnts nc nh nl nd f gh gl gd c w) := by
  have hbl : (4 :: be c 2).length = 3 := by rw [List.length_cons, be_length]
  have hlw := hi.lt
  have H := Lib.hid (And.intro hi (And.intro hR (And.intro hf (And.intro hn (And.intro hbl hlw)))))
  obtain ⟨f0, _⟩ := hi.g
  clear hi hR hf hn hbl hlw
  go_enter Tryz.func41, Tryz.ntmps41
  go_upto_region 3 with (go_at_call 74; refine (new_c T (some q) 3 cp (4 :: be c 2) _ H.out.2.1 (by intro h; cases h) (by rw [H.out.2.2.2.2.1]; decide) H.out.2.2.2.2.1).mono ?_; rintro e w1 ⟨r, g, rfl, hr, hrl, hg, hcu, b1⟩)
  go_upto_region 19 with (first
    | (go_at_call 75; apply Calls.mono; (· (with_reducible refine uint_2 r g c [] _ ?_ ?_); (· exact hc); (· rw [List.append_nil]; exact hc2)); rintro e w3 ⟨rfl, hc3, o3⟩)
    | (go_at_call 75; apply Calls.mono; (· (with_reducible refine uint_14 r g (be c 2) _ ?_); (· exact hcu)); rintro e w2 ⟨rfl, hc2, o2⟩))
  have b3 : Below w.heap.size w w3 := below_only (below_only b1 b1.size o2 (fun k hk e => by omega)) (below_only b1 b1.size o2 (fun k hk e => by omega)).size o3 (fun k hk e => by omega)
  have hc9 : r ≠ mh ∧ r ≠ mc ∧ g ≠ mh ∧ g ≠ mc := by have := H.out.2.2.2.2.2; omega
  have H3 := Lib.hid (And.intro (H.out.1.below b3) (And.intro b3 (And.intro hc3 hc9)))
  clear b1 o2 o3 hcu hc2 hc3 b3 f0 hc9
  have hmh := H3.out.1.dh
  have hmc := H3.out.1.c
  have hff := H.out.2.2.1
  have hn1 := H.out.2.2.2.1.1
  have hn2 := H.out.2.2.2.1.2
  have hnn := H3.out.1.ne.2.2.2.2.2.2.2.2.2.1
  refine wp_region_tail (S := fun wx => Only (fun x => x = mh ∨ x = mc) w3 wx) (n := 18) (by kernel_rfl) (by decide) ?_
  try simp only [List.drop_succ_cons, List.drop_zero]
  obtain ⟨u0, hu0⟩ : ∃ u, u = w3.drew := ⟨_, rfl⟩
  have hS : Only (fun x => x = mh ∨ x = mc) w3 u0 := by rw [hu0]; exact (Only.refl _ _).drew
  have hk0 : ∀ {wq : World}, Only (fun x => x = mh ∨ x = mc) w3 wq → wq.cell? ⟨h, 69, none⟩ = some (.map (some mh)) ∧ wq.cell? ⟨h, 68, none⟩ = some (.map (some mc)) := fun ho => by
    obtain ⟨ch, hb⟩ := H3.out.1.hb
    have h2 := hb.only ho (by have := H3.out.1.ne; omega)
    obtain ⟨g0, g1, g2, g3, g4, g5, g6, g7⟩ := hoV_get j ch tkF tkF_len mc mh cnt cnts (.slice none 0 0) false
    exact ⟨(h2.c 69).trans g3, (h2.c 68).trans g2⟩
  have hmh : BmS u0 mh nh gh := by rw [hu0]; exact hmh.only ((Only.refl (fun _ => False) _).drew) (fun h => h)
  have hmc : CnS u0 mc f nc := by rw [hu0]; exact hmc.only ((Only.refl (fun _ => False) _).drew) (fun h => h)
  rw [← hu0]
  clear hu0
  try simp only [Act.put]
  refine wpAnyT_take (i := 0) (oi := _) (v := (rp h)) rfl (by kernel_rfl) (fun _ _ _ h => h) (by kernel_rfl) (fun wq hq => rfl) hS ?_
  try simp only [List.getElem_toArray, List.getElem_cons_succ, List.getElem_cons_zero, Act.put, List.setIfInBounds_toArray, List.set_cons_zero, List.set_cons_succ]
  refine wpAnyT_take (i := 1) (oi := _) (v := (rp h)) rfl (by kernel_rfl) (fun _ _ _ h => h) (by kernel_rfl) (fun wq hq => rfl) hS ?_
  try simp only [List.getElem_toArray, List.getElem_cons_succ, List.getElem_cons_zero, Act.put, List.setIfInBounds_toArray, List.set_cons_zero, List.set_cons_succ]
  refine wpAnyT_take (i := 2) (oi := _) (v := (.pointer (some ⟨h, 69, none⟩))) rfl (by kernel_rfl) (fun _ _ _ h => h) (by kernel_rfl) (fun wq hq => by go_simp) hS ?_
  try simp only [List.getElem_toArray, List.getElem_cons_succ, List.getElem_cons_zero, Act.put, List.setIfInBounds_toArray, List.set_cons_zero, List.set_cons_succ]
  refine wpAnyT_take (i := 3) (oi := _) (v := (.map (some mh))) rfl (by kernel_rfl) (fun _ _ _ h => h) (by kernel_rfl) (fun wq hq => by have h := (hk0 hq).1; go_simp) hS ?_
  try simp only [List.getElem_toArray, List.getElem_cons_succ, List.getElem_cons_zero, Act.put, List.setIfInBounds_toArray, List.set_cons_zero, List.set_cons_succ]
  refine wpAnyT_take (i := 4) (oi := _) (v := (.int .i64 (c : Int))) rfl (by kernel_rfl) (fun _ _ _ h => h) (by kernel_rfl) (fun wq hq => rfl) hS ?_
  try simp only [List.getElem_toArray, List.getElem_cons_succ, List.getElem_cons_zero, Act.put, List.setIfInBounds_toArray, List.set_cons_zero, List.set_cons_succ]
  refine wpAnyT_take (i := 5) (oi := _) (v := (rp h)) rfl (by kernel_rfl) (fun _ _ _ h => h) (by kernel_rfl) (fun wq hq => rfl) hS ?_
  try simp only [List.getElem_toArray, List.getElem_cons_succ, List.getElem_cons_zero, Act.put, List.setIfInBounds_toArray, List.set_cons_zero, List.set_cons_succ]
  refine wpAnyT_take (i := 6) (oi := _) (v := (rp h)) rfl (by kernel_rfl) (fun _ _ _ h => h) (by kernel_rfl) (fun wq hq => rfl) hS ?_
  try simp only [List.getElem_toArray, List.getElem_cons_succ, List.getElem_cons_zero, Act.put, List.setIfInBounds_toArray, List.set_cons_zero, List.set_cons_succ]
  refine wpAnyT_take (i := 7) (oi := _) (v := (.pointer (some ⟨h, 68, none⟩))) rfl (by kernel_rfl) (fun _ _ _ h => h) (by kernel_rfl) (fun wq hq => by go_simp) hS ?_
  try simp only [List.getElem_toArray, List.getElem_cons_succ, List.getElem_cons_zero, Act.put, List.setIfInBounds_toArray, List.set_cons_zero, List.set_cons_succ]
  refine wpAnyT_take (i := 8) (oi := _) (v := (.map (some mc))) rfl (by kernel_rfl) (fun _ _ _ h => h) (by kernel_rfl) (fun wq hq => by have h := (hk0 hq).2; go_simp) hS ?_
  try simp only [List.getElem_toArray, List.getElem_cons_succ, List.getElem_cons_zero, Act.put, List.setIfInBounds_toArray, List.set_cons_zero, List.set_cons_succ]
  refine wpAnyT_take (i := 9) (oi := _) (v := (.int .i64 (c : Int))) rfl (by kernel_rfl) (fun _ _ _ h => h) (by kernel_rfl) (fun wq hq => rfl) hS ?_
  try simp only [List.getElem_toArray, List.getElem_cons_succ, List.getElem_cons_zero, Act.put, List.setIfInBounds_toArray, List.set_cons_zero, List.set_cons_succ]
  clear hk0
  refine wpAnyT_ready (rs := [10]) (by kernel_rfl) (by simp) ?_
  refine AllReadyT.cons rfl (by decide) (fun K hC => ?_) AllReadyT.nil
  go_simp
  go_wp2_with (go_at_call 20; apply Calls.mono; (· (with_reducible exact snew_c _)); rintro e w5 ⟨rfl, b5⟩)
  have hS := hS.then (Only.of_below b5)
  have hmh := hmh.only (Only.of_below b5 : Only (fun _ => False) _ _) (fun h => h)
  have hmc := hmc.only (Only.of_below b5 : Only (fun _ => False) _ _) (fun h => h)
  refine hC.out _ _ hS ?_
  clear hC K b5
  try simp only [List.getElem_toArray, List.getElem_cons_succ, List.getElem_cons_zero, Act.put, List.setIfInBounds_toArray, List.set_cons_zero, List.set_cons_succ]
  refine wpAnyT_take (i := 11) (oi := _) (v := (.agg coV)) rfl (by kernel_rfl) (fun _ _ _ h => h) (by kernel_rfl) (fun wq hq => bld_co rfl) hS ?_
  try simp only [List.getElem_toArray, List.getElem_cons_succ, List.getElem_cons_zero, Act.put, List.setIfInBounds_toArray, List.set_cons_zero, List.set_cons_succ]
  refine wpAnyT_ready (rs := [12, 13]) (by kernel_rfl) (by simp) ?_
  refine AllReadyT.cons rfl (by decide) (fun K hC => ?_) (AllReadyT.cons rfl (by decide) (fun K hC => ?_) AllReadyT.nil)
  · go_simp
    go_wp2
    have hco := Blk.new w5 74 coV
    have hal : Below w5.heap.size w5 (w5.alloc (.cells coV 74)) := (Below.refl _ _).alloc (Nat.le_refl _) _
    have hgeb := hS.size
    have hS := hS.then (Only.of_below hal)
    have hmh := hmh.only (Only.of_below hal : Only (fun _ => False) _ _) (fun h => h)
    have hmc := hmc.only (Only.of_below hal : Only (fun _ => False) _ _) (fun h => h)
    refine hC.out _ _ hS ?_
    clear hC K hal
    try simp only [List.getElem_toArray, List.getElem_cons_succ, List.getElem_cons_zero, Act.put, List.setIfInBounds_toArray, List.set_cons_zero, List.set_cons_succ]
    obtain ⟨bC, hbC⟩ : ∃ b, b = w5.heap.size := ⟨_, rfl⟩
    rw [← hbC] at hco hgeb ⊢
    clear hbC
    change wpAnyT _ _ _ _ _ _ _ _ _ _ (w5.alloc (.cells coV 74))
    generalize w5.alloc (.cells coV 74) = w6 at *
    refine wpAnyT_ready (rs := [13]) (by kernel_rfl) (by simp) ?_
    refine AllReadyT.cons rfl (by decide) (fun K hC => ?_) AllReadyT.nil
    obtain ⟨v1, s1, M1, hr1, hs1⟩ := hmh.entry (by unfold maxLen; omega) (c : Int) (WalkArith.wf_i64 (by omega))
    have ho := only_setBlock w6 mh M1
    have hm1 : HeapIs (setBlock w6 mh M1) mh M1 := setBlock_same _ _ _ hmh.lt
    refine step_mapEntry rfl (.tmp 71) (.tmp 72) rfl _ _ rfl rfl hr1 ?_
    have hS := hS.then (ho.mono (fun x _ e => .inl e))
    have hmc := hmc.only ho (by omega)
    have hco := hco.only ho (by have := H3.out.2.1.size; have := H.out.2.2.2.2.2; omega)
    have hmh := hm1
    refine hC.out _ _ hS ?_
    clear hC K ho hr1 hm1
    try simp only [List.getElem_toArray, List.getElem_cons_succ, List.getElem_cons_zero, Act.put, List.setIfInBounds_toArray, List.set_cons_zero, List.set_cons_succ]
    generalize setBlock w6 mh M1 = w7 at *
    refine wpAnyT_take (i := 14) (oi := _) (v := (goInt s1)) rfl (by kernel_rfl) (fun _ _ _ h => h) (by kernel_rfl) (fun wq hq => rfl) hS ?_
    try simp only [List.getElem_toArray, List.getElem_cons_succ, List.getElem_cons_zero, Act.put, List.setIfInBounds_toArray, List.set_cons_zero, List.set_cons_succ]
    refine wpAnyT_ready (rs := [15]) (by kernel_rfl) (by simp) ?_
    refine AllReadyT.cons rfl (by decide) (fun K hC => ?_) AllReadyT.nil
    obtain ⟨M2, hr2, hs2⟩ := hs1 _ true hmh
    have ho := only_setBlock w7 mh M2
    have hm1 := hs2 _ (setBlock_same w7 mh M2 hmh.lt)
    refine step_entryStore rfl (.tmp 71) (.tmp 82) (.const (.bool true)) rfl _ _ _ rfl rfl rfl hr2 ?_
    have hS := hS.then (ho.mono (fun x _ e => .inl e))
    have hmc := hmc.only ho (by omega)
    have hco := hco.only ho (by have := H3.out.2.1.size; have := H.out.2.2.2.2.2; omega)
    have hmh := hm1
    refine hC.out _ _ hS ?_
    clear hC K ho hr2 hm1 hs2 hs1
    try simp only [List.getElem_toArray, List.getElem_cons_succ, List.getElem_cons_zero, Act.put, List.setIfInBounds_toArray, List.set_cons_zero, List.set_cons_succ]
    generalize setBlock w7 mh M2 = w8 at *
    refine wpAnyT_ready (rs := [16]) (by kernel_rfl) (by simp) ?_
    refine AllReadyT.cons rfl (by decide) (fun K hC => ?_) AllReadyT.nil
    obtain ⟨v3, s3, M3, hr3, hs3⟩ := hmc.entry (by unfold maxLen; omega) (c : Int) (WalkArith.wf_i64 (by omega)) hff
    have ho := only_setBlock w8 mc M3
    have hm1 : HeapIs (setBlock w8 mc M3) mc M3 := setBlock_same _ _ _ hmc.lt
    refine step_mapEntry rfl (.tmp 76) (.tmp 77) rfl _ _ rfl rfl hr3 ?_
    have hS := hS.then (ho.mono (fun x _ e => .inr e))
    have hmh := hmh.only ho (by omega)
    have hco := hco.only ho (by have := H3.out.2.1.size; have := H.out.2.2.2.2.2; omega)
    have hmc := hm1
    refine hC.out _ _ hS ?_
    clear hC K ho hr3 hm1
    try simp only [List.getElem_toArray, List.getElem_cons_succ, List.getElem_cons_zero, Act.put, List.setIfInBounds_toArray, List.set_cons_zero, List.set_cons_succ]
    generalize setBlock w8 mc M3 = w9 at *
    refine wpAnyT_take (i := 17) (oi := _) (v := (goInt s3)) rfl (by kernel_rfl) (fun _ _ _ h => h) (by kernel_rfl) (fun wq hq => rfl) hS ?_
    try simp only [List.getElem_toArray, List.getElem_cons_succ, List.getElem_cons_zero, Act.put, List.setIfInBounds_toArray, List.set_cons_zero, List.set_cons_succ]
    obtain ⟨M4, hr4, hs4⟩ := hs3 _ bC hmc
    have ho := only_setBlock w9 mc M4
    have hm1 := hs4 _ (setBlock_same w9 mc M4 hmc.lt)
    refine wpAnyT_tail (by kernel_rfl) ?_
    try simp only [List.getElem_toArray, List.getElem_cons_succ, List.getElem_cons_zero, Act.put, List.setIfInBounds_toArray, List.set_cons_zero, List.set_cons_succ]
    refine wpList_entryStore rfl (.tmp 76) (.tmp 84) (.tmp 80) rfl _ _ _ rfl rfl rfl hr4 ?_
    have hS := hS.then (ho.mono (fun x _ e => .inr e))
    have hmh := hmh.only ho (by omega)
    have hco := hco.only ho (by have := H3.out.2.1.size; have := H.out.2.2.2.2.2; omega)
    generalize setBlock w9 mc M4 = w9 at *
    have hcu := H3.out.2.2.1.only hS (by have := H3.out.2.2.2; omega) (by have := H3.out.2.2.2; omega)
    clear hr4 hs4 hs3 ho
    go_wp2_with (go_at_call 82; apply Calls.mono; (· (with_reducible exact done_0 r g _ hcu)); rintro e wd ⟨rfl, rfl⟩)
    go_ret
    obtain ⟨ch, hb⟩ := H3.out.1.hb
    have hne := H3.out.1.ne
    exact ⟨rfl, bC, (by have := H3.out.2.1.size; omega), ⟨H3.out.1.fb.only hS (by omega), ⟨ch, hb.only hS (by omega)⟩, hm1, hmh, H3.out.1.dl.only hS (by omega), H3.out.1.dd.only hS (by omega), hne⟩, hco, (Only.of_below H3.out.2.1).then hS⟩
  · obtain ⟨v1, s1, M1, hr1, hs1⟩ := hmh.entry (by unfold maxLen; omega) (c : Int) (WalkArith.wf_i64 (by omega))
    have ho := only_setBlock w5 mh M1
    have hm1 : HeapIs (setBlock w5 mh M1) mh M1 := setBlock_same _ _ _ hmh.lt
    refine step_mapEntry rfl (.tmp 71) (.tmp 72) rfl _ _ rfl rfl hr1 ?_
    have hS := hS.then (ho.mono (fun x _ e => .inl e))
    have hmc := hmc.only ho (by omega)
    have hmh := hm1
    refine hC.out _ _ hS ?_
    clear hC K ho hr1 hm1
    try simp only [List.getElem_toArray, List.getElem_cons_succ, List.getElem_cons_zero, Act.put, List.setIfInBounds_toArray, List.set_cons_zero, List.set_cons_succ]
    generalize setBlock w5 mh M1 = w10 at *
    refine wpAnyT_take (i := 14) (oi := _) (v := (goInt s1)) rfl (by kernel_rfl) (fun _ _ _ h => h) (by kernel_rfl) (fun wq hq => rfl) hS ?_
    try simp only [List.getElem_toArray, List.getElem_cons_succ, List.getElem_cons_zero, Act.put, List.setIfInBounds_toArray, List.set_cons_zero, List.set_cons_succ]
    refine wpAnyT_ready (rs := [12, 15]) (by kernel_rfl) (by simp) ?_
    refine AllReadyT.cons rfl (by decide) (fun K hC => ?_) (AllReadyT.cons rfl (by decide) (fun K hC => ?_) AllReadyT.nil)
    · go_simp
      go_wp2
      have hco := Blk.new w10 74 coV
      have hal : Below w10.heap.size w10 (w10.alloc (.cells coV 74)) := (Below.refl _ _).alloc (Nat.le_refl _) _
      have hgeb := hS.size
      have hS := hS.then (Only.of_below hal)
      have hmh := hmh.only (Only.of_below hal : Only (fun _ => False) _ _) (fun h => h)
      have hmc := hmc.only (Only.of_below hal : Only (fun _ => False) _ _) (fun h => h)
      refine hC.out _ _ hS ?_
      clear hC K hal
      try simp only [List.getElem_toArray, List.getElem_cons_succ, List.getElem_cons_zero, Act.put, List.setIfInBounds_toArray, List.set_cons_zero, List.set_cons_succ]
      obtain ⟨bC, hbC⟩ : ∃ b, b = w10.heap.size := ⟨_, rfl⟩
      rw [← hbC] at hco hgeb ⊢
      clear hbC
      change wpAnyT _ _ _ _ _ _ _ _ _ _ (w10.alloc (.cells coV 74))
      generalize w10.alloc (.cells coV 74) = w11 at *
      refine wpAnyT_ready (rs := [15]) (by kernel_rfl) (by simp) ?_
      refine AllReadyT.cons rfl (by decide) (fun K hC => ?_) AllReadyT.nil
      obtain ⟨M2, hr2, hs2⟩ := hs1 _ true hmh
      have ho := only_setBlock w11 mh M2
      have hm1 := hs2 _ (setBlock_same w11 mh M2 hmh.lt)
      refine step_entryStore rfl (.tmp 71) (.tmp 82) (.const (.bool true)) rfl _ _ _ rfl rfl rfl hr2 ?_
      have hS := hS.then (ho.mono (fun x _ e => .inl e))
      have hmc := hmc.only ho (by omega)
      have hco := hco.only ho (by have := H3.out.2.1.size; have := H.out.2.2.2.2.2; omega)
      have hmh := hm1
      refine hC.out _ _ hS ?_
      clear hC K ho hr2 hm1 hs2 hs1
      try simp only [List.getElem_toArray, List.getElem_cons_succ, List.getElem_cons_zero, Act.put, List.setIfInBounds_toArray, List.set_cons_zero, List.set_cons_succ]
      generalize setBlock w11 mh M2 = w12 at *
      refine wpAnyT_ready (rs := [16]) (by kernel_rfl) (by simp) ?_
      refine AllReadyT.cons rfl (by decide) (fun K hC => ?_) AllReadyT.nil
      obtain ⟨v3, s3, M3, hr3, hs3⟩ := hmc.entry (by unfold maxLen; omega) (c : Int) (WalkArith.wf_i64 (by omega)) hff
      have ho := only_setBlock w12 mc M3
      have hm1 : HeapIs (setBlock w12 mc M3) mc M3 := setBlock_same _ _ _ hmc.lt
      refine step_mapEntry rfl (.tmp 76) (.tmp 77) rfl _ _ rfl rfl hr3 ?_
      have hS := hS.then (ho.mono (fun x _ e => .inr e))
      have hmh := hmh.only ho (by omega)
      have hco := hco.only ho (by have := H3.out.2.1.size; have := H.out.2.2.2.2.2; omega)
      have hmc := hm1
      refine hC.out _ _ hS ?_
      clear hC K ho hr3 hm1
      try simp only [List.getElem_toArray, List.getElem_cons_succ, List.getElem_cons_zero, Act.put, List.setIfInBounds_toArray, List.set_cons_zero, List.set_cons_succ]
      generalize setBlock w12 mc M3 = w13 at *
      refine wpAnyT_take (i := 17) (oi := _) (v := (goInt s3)) rfl (by kernel_rfl) (fun _ _ _ h => h) (by kernel_rfl) (fun wq hq => rfl) hS ?_
      try simp only [List.getElem_toArray, List.getElem_cons_succ, List.getElem_cons_zero, Act.put, List.setIfInBounds_toArray, List.set_cons_zero, List.set_cons_succ]
      obtain ⟨M4, hr4, hs4⟩ := hs3 _ bC hmc
      have ho := only_setBlock w13 mc M4
      have hm1 := hs4 _ (setBlock_same w13 mc M4 hmc.lt)
      refine wpAnyT_tail (by kernel_rfl) ?_
      try simp only [List.getElem_toArray, List.getElem_cons_succ, List.getElem_cons_zero, Act.put, List.setIfInBounds_toArray, List.set_cons_zero, List.set_cons_succ]
      refine wpList_entryStore rfl (.tmp 76) (.tmp 84) (.tmp 80) rfl _ _ _ rfl rfl rfl hr4 ?_
      have hS := hS.then (ho.mono (fun x _ e => .inr e))
      have hmh := hmh.only ho (by omega)
      have hco := hco.only ho (by have := H3.out.2.1.size; have := H.out.2.2.2.2.2; omega)
      generalize setBlock w13 mc M4 = w9 at *
      have hcu := H3.out.2.2.1.only hS (by have := H3.out.2.2.2; omega) (by have := H3.out.2.2.2; omega)
      clear hr4 hs4 hs3 ho
      go_wp2_with (go_at_call 82; apply Calls.mono; (· (with_reducible exact done_0 r g _ hcu)); rintro e wd ⟨rfl, rfl⟩)
      go_ret
      obtain ⟨ch, hb⟩ := H3.out.1.hb
      have hne := H3.out.1.ne
      exact ⟨rfl, bC, (by have := H3.out.2.1.size; omega), ⟨H3.out.1.fb.only hS (by omega), ⟨ch, hb.only hS (by omega)⟩, hm1, hmh, H3.out.1.dl.only hS (by omega), H3.out.1.dd.only hS (by omega), hne⟩, hco, (Only.of_below H3.out.2.1).then hS⟩
    · obtain ⟨M2, hr2, hs2⟩ := hs1 _ true hmh
      have ho := only_setBlock w10 mh M2
      have hm1 := hs2 _ (setBlock_same w10 mh M2 hmh.lt)
      refine step_entryStore rfl (.tmp 71) (.tmp 82) (.const (.bool true)) rfl _ _ _ rfl rfl rfl hr2 ?_
      have hS := hS.then (ho.mono (fun x _ e => .inl e))
      have hmc := hmc.only ho (by omega)
      have hmh := hm1
      refine hC.out _ _ hS ?_
      clear hC K ho hr2 hm1 hs2 hs1
      try simp only [List.getElem_toArray, List.getElem_cons_succ, List.getElem_cons_zero, Act.put, List.setIfInBounds_toArray, List.set_cons_zero, List.set_cons_succ]
      generalize setBlock w10 mh M2 = w14 at *
      refine wpAnyT_ready (rs := [12, 16]) (by kernel_rfl) (by simp) ?_
      refine AllReadyT.cons rfl (by decide) (fun K hC => ?_) (AllReadyT.cons rfl (by decide) (fun K hC => ?_) AllReadyT.nil)
      · go_simp
        go_wp2
        have hco := Blk.new w14 74 coV
        have hal : Below w14.heap.size w14 (w14.alloc (.cells coV 74)) := (Below.refl _ _).alloc (Nat.le_refl _) _
        have hgeb := hS.size
        have hS := hS.then (Only.of_below hal)
        have hmh := hmh.only (Only.of_below hal : Only (fun _ => False) _ _) (fun h => h)
        have hmc := hmc.only (Only.of_below hal : Only (fun _ => False) _ _) (fun h => h)
        refine hC.out _ _ hS ?_
        clear hC K hal
        try simp only [List.getElem_toArray, List.getElem_cons_succ, List.getElem_cons_zero, Act.put, List.setIfInBounds_toArray, List.set_cons_zero, List.set_cons_succ]
        obtain ⟨bC, hbC⟩ : ∃ b, b = w14.heap.size := ⟨_, rfl⟩
        rw [← hbC] at hco hgeb ⊢
        clear hbC
        change wpAnyT _ _ _ _ _ _ _ _ _ _ (w14.alloc (.cells coV 74))
        generalize w14.alloc (.cells coV 74) = w15 at *
        refine wpAnyT_ready (rs := [16]) (by kernel_rfl) (by simp) ?_
        refine AllReadyT.cons rfl (by decide) (fun K hC => ?_) AllReadyT.nil
        obtain ⟨v3, s3, M3, hr3, hs3⟩ := hmc.entry (by unfold maxLen; omega) (c : Int) (WalkArith.wf_i64 (by omega)) hff
        have ho := only_setBlock w15 mc M3
        have hm1 : HeapIs (setBlock w15 mc M3) mc M3 := setBlock_same _ _ _ hmc.lt
        refine step_mapEntry rfl (.tmp 76) (.tmp 77) rfl _ _ rfl rfl hr3 ?_
        have hS := hS.then (ho.mono (fun x _ e => .inr e))
        have hmh := hmh.only ho (by omega)
        have hco := hco.only ho (by have := H3.out.2.1.size; have := H.out.2.2.2.2.2; omega)
        have hmc := hm1
        refine hC.out _ _ hS ?_
        clear hC K ho hr3 hm1
        try simp only [List.getElem_toArray, List.getElem_cons_succ, List.getElem_cons_zero, Act.put, List.setIfInBounds_toArray, List.set_cons_zero, List.set_cons_succ]
        generalize setBlock w15 mc M3 = w16 at *
        refine wpAnyT_take (i := 17) (oi := _) (v := (goInt s3)) rfl (by kernel_rfl) (fun _ _ _ h => h) (by kernel_rfl) (fun wq hq => rfl) hS ?_
        try simp only [List.getElem_toArray, List.getElem_cons_succ, List.getElem_cons_zero, Act.put, List.setIfInBounds_toArray, List.set_cons_zero, List.set_cons_succ]
        obtain ⟨M4, hr4, hs4⟩ := hs3 _ bC hmc
        have ho := only_setBlock w16 mc M4
        have hm1 := hs4 _ (setBlock_same w16 mc M4 hmc.lt)
        refine wpAnyT_tail (by kernel_rfl) ?_
        try simp only [List.getElem_toArray, List.getElem_cons_succ, List.getElem_cons_zero, Act.put, List.setIfInBounds_toArray, List.set_cons_zero, List.set_cons_succ]
        refine wpList_entryStore rfl (.tmp 76) (.tmp 84) (.tmp 80) rfl _ _ _ rfl rfl rfl hr4 ?_
        have hS := hS.then (ho.mono (fun x _ e => .inr e))
        have hmh := hmh.only ho (by omega)
        have hco := hco.only ho (by have := H3.out.2.1.size; have := H.out.2.2.2.2.2; omega)
        generalize setBlock w16 mc M4 = w9 at *
        have hcu := H3.out.2.2.1.only hS (by have := H3.out.2.2.2; omega) (by have := H3.out.2.2.2; omega)
        clear hr4 hs4 hs3 ho
        go_wp2_with (go_at_call 82; apply Calls.mono; (· (with_reducible exact done_0 r g _ hcu)); rintro e wd ⟨rfl, rfl⟩)
        go_ret
        obtain ⟨ch, hb⟩ := H3.out.1.hb
        have hne := H3.out.1.ne
        exact ⟨rfl, bC, (by have := H3.out.2.1.size; omega), ⟨H3.out.1.fb.only hS (by omega), ⟨ch, hb.only hS (by omega)⟩, hm1, hmh, H3.out.1.dl.only hS (by omega), H3.out.1.dd.only hS (by omega), hne⟩, hco, (Only.of_below H3.out.2.1).then hS⟩
      · obtain ⟨v3, s3, M3, hr3, hs3⟩ := hmc.entry (by unfold maxLen; omega) (c : Int) (WalkArith.wf_i64 (by omega)) hff
        have ho := only_setBlock w14 mc M3
        have hm1 : HeapIs (setBlock w14 mc M3) mc M3 := setBlock_same _ _ _ hmc.lt
        refine step_mapEntry rfl (.tmp 76) (.tmp 77) rfl _ _ rfl rfl hr3 ?_
        have hS := hS.then (ho.mono (fun x _ e => .inr e))
        have hmh := hmh.only ho (by omega)
        have hmc := hm1
        refine hC.out _ _ hS ?_
        clear hC K ho hr3 hm1
        try simp only [List.getElem_toArray, List.getElem_cons_succ, List.getElem_cons_zero, Act.put, List.setIfInBounds_toArray, List.set_cons_zero, List.set_cons_succ]
        generalize setBlock w14 mc M3 = w17 at *
        refine wpAnyT_take (i := 17) (oi := _) (v := (goInt s3)) rfl (by kernel_rfl) (fun _ _ _ h => h) (by kernel_rfl) (fun wq hq => rfl) hS ?_
        try simp only [List.getElem_toArray, List.getElem_cons_succ, List.getElem_cons_zero, Act.put, List.setIfInBounds_toArray, List.set_cons_zero, List.set_cons_succ]
        refine wpAnyT_ready (rs := [12]) (by kernel_rfl) (by simp) ?_
        refine AllReadyT.cons rfl (by decide) (fun K hC => ?_) AllReadyT.nil
        go_simp
        go_wp2
        have hco := Blk.new w17 74 coV
        have hal : Below w17.heap.size w17 (w17.alloc (.cells coV 74)) := (Below.refl _ _).alloc (Nat.le_refl _) _
        have hgeb := hS.size
        have hS := hS.then (Only.of_below hal)
        have hmh := hmh.only (Only.of_below hal : Only (fun _ => False) _ _) (fun h => h)
        have hmc := hmc.only (Only.of_below hal : Only (fun _ => False) _ _) (fun h => h)
        refine hC.out _ _ hS ?_
        clear hC K hal
        try simp only [List.getElem_toArray, List.getElem_cons_succ, List.getElem_cons_zero, Act.put, List.setIfInBounds_toArray, List.set_cons_zero, List.set_cons_succ]
        obtain ⟨bC, hbC⟩ : ∃ b, b = w17.heap.size := ⟨_, rfl⟩
        rw [← hbC] at hco hgeb ⊢
        clear hbC
        change wpAnyT _ _ _ _ _ _ _ _ _ _ (w17.alloc (.cells coV 74))
        generalize w17.alloc (.cells coV 74) = w18 at *
        obtain ⟨M4, hr4, hs4⟩ := hs3 _ bC hmc
        have ho := only_setBlock w18 mc M4
        have hm1 := hs4 _ (setBlock_same w18 mc M4 hmc.lt)
        refine wpAnyT_tail (by kernel_rfl) ?_
        try simp only [List.getElem_toArray, List.getElem_cons_succ, List.getElem_cons_zero, Act.put, List.setIfInBounds_toArray, List.set_cons_zero, List.set_cons_succ]
        refine wpList_entryStore rfl (.tmp 76) (.tmp 84) (.tmp 80) rfl _ _ _ rfl rfl rfl hr4 ?_
        have hS := hS.then (ho.mono (fun x _ e => .inr e))
        have hmh := hmh.only ho (by omega)
        have hco := hco.only ho (by have := H3.out.2.1.size; have := H.out.2.2.2.2.2; omega)
        generalize setBlock w18 mc M4 = w9 at *
        have hcu := H3.out.2.2.1.only hS (by have := H3.out.2.2.2; omega) (by have := H3.out.2.2.2; omega)
        clear hr4 hs4 hs3 ho
        go_wp2_with (go_at_call 82; apply Calls.mono; (· (with_reducible exact done_0 r g _ hcu)); rintro e wd ⟨rfl, rfl⟩)
        go_ret
        obtain ⟨ch, hb⟩ := H3.out.1.hb
        have hne := H3.out.1.ne
        exact ⟨rfl, bC, (by have := H3.out.2.1.size; omega), ⟨H3.out.1.fb.only hS (by omega), ⟨ch, hb.only hS (by omega)⟩, hm1, hmh, H3.out.1.dl.only hS (by omega), H3.out.1.dd.only hS (by omega), hne⟩, hco, (Only.of_below H3.out.2.1).then hS⟩
end Go.Proofs.YtolgaapiedbkfaaGreat
