/-
  The contract of snap.Get. Conditions: at most 2 to the 47th bytes.
-/
import Derived.Test.YtolgaapiedbkfaaGreatZSnG
import Derived.Deep.RegionHeld3
import Derived.Deep.CutBlock
import Derived.Deep.CutRange
namespace Go.Proofs.YtolgaapiedbkfaaGreat
open Go.RowKit Go.Kx
set_option linter.unusedVariables false
set_option linter.unusedSimpArgs false

/-- No State. -/
def zSt : St := ⟨0, [], List.replicate 224 0, 0, 0, 0, 0, false, [], [], 0⟩
/-- The start. -/
def nSt : St := { zSt with al := -1 }
/-- The error that Get tells. -/
def getE (s : St) (sealed : Nat) (y : RS) : Int := if doneS y.1 y.2 ≠ 0 then doneS y.1 y.2 else if 1 < sealed ∨ ¬ okS s then 3 else 0
/-- What Get leaves. -/
def GetR (w : World) (L : List UInt8) (e : Ending) (w' : World) : Prop :=
  ∃ (ver sealed : Nat) (s : St) (y : RS) (C : Array Value) (v : Int), Go1 L ver s sealed y ∧ s.sm.length = 224 ∧ e = .returned (.tuple #[.agg C, .int .i64 v, .int .i64 (getE s sealed y)]) ∧ v = (if getE s sealed y = 0 then (ver : Int) else 0) ∧ IsSt w' C (if getE s sealed y = 0 then s else zSt) ∧ Below w.heap.size w w'

theorem getE_bad (s : St) (sealed : Nat) (y : RS) (h : doneS y.1 y.2 ≠ 0) : getE s sealed y = doneS y.1 y.2 := by unfold getE; rw [if_pos h]

theorem GetR.zero {w wc : World} {L : List UInt8} {r g R6 ver sealed : Nat} {s : St} {y : RS} {lg pt us : Value} (hgo : Go1 L ver s sealed y) (G : Gx w r g w.heap.size R6 y s lg pt us wc) {er : Int} (he : getE s sealed y = er) (hne : er ≠ 0) :
    GetR w L (.returned (.tuple #[.agg zC, .int .i64 0, .int .i64 er])) (wc.setRow w.heap.size zC) := by
  refine ⟨ver, sealed, s, y, zC, 0, hgo, G.st.len, by rw [he], by rw [he, if_neg hne], ?_, ?_⟩
  · rw [he, if_neg hne]
    exact ⟨_, _, _, zC_ok, Sl.nil _, Sl.nil _, Sl.nil _⟩
  · exact below_only G.bel G.bel.size (only_setRowS (q := fun k => k = w.heap.size) _ _ _ rfl) (by intro k hk e; omega)
theorem GetR.one {w wc : World} {L : List UInt8} {r g R6 ver sealed : Nat} {s : St} {y : RS} {lg pt us : Value} {C : Array Value} (hgo : Go1 L ver s sealed y) (G : Gx w r g w.heap.size R6 y s lg pt us wc) (hC : StC C s.ph lg s.sm s.a s.b s.c s.d s.sl pt us s.al) (he : getE s sealed y = 0) :
    GetR w L (.returned (.tuple #[.agg C, .int .i64 (ver : Int), .int .i64 0])) (wc.setRow w.heap.size C) := by
  have ho : Only (fun k => k = w.heap.size) wc (wc.setRow w.heap.size C) := only_setRowS (q := fun k => k = w.heap.size) _ _ _ rfl
  refine ⟨ver, sealed, s, y, C, ver, hgo, G.st.len, by rw [he], by rw [he, if_pos rfl], ?_, ?_⟩
  · rw [he, if_pos rfl]
    exact ⟨lg, pt, us, hC, (G.s1.only ho (fun k hk => .inr (.inl hk))).sl, (G.s2.only ho (fun k hk => .inr (.inl hk))).sl, (G.s3.only ho (fun k hk => .inr (.inl hk))).sl⟩
  · exact below_only G.bel G.bel.size ho (by intro k hk e; omega)

def BtwR (n low high : Int) (w : World) (e : Ending) (w' : World) : Prop := ∃ b : Bool, e = .returned (.bool b) ∧ (b = decide (low ≤ n ∧ n ≤ high)) ∧ w = w'
theorem between_b (n low high : Int) (w : World) : Calls Tryz.prog 59 #[.int .i64 n, .int .i64 low, .int .i64 high] w (BtwR n low high w) := by
  refine (between_c n low high w).mono ?_
  rintro e w' ⟨rfl, h⟩
  exact ⟨_, rfl, rfl, h⟩

/-- At the head of the loop over the sums. -/
def GL (w0 : World) (r g R2 R6 gs : Nat) (x4 : RS) (s : St) (lg : Value) (v30 : Value) (wr : World) : Prop :=
  ∃ i : Nat, v30 = .int .i64 (i : Int) ∧ i ≤ 7 ∧ Gx w0 r g R2 R6 (smS i x4).2 { s with sm := (smS i x4).1 ++ List.replicate (224 - 32 * i) 0 } lg (.slice none 0 0) (.slice none 0 0) wr ∧ gs < wr.heap.size ∧ w0.heap.size ≤ gs ∧ gs ≠ r ∧ gs ≠ R6 ∧ (∀ k, k < 7 → wr.cell? ⟨gs, k, none⟩ = some (.pointer (some ⟨R6, 2 + 32 * k, none⟩)))

set_option maxHeartbeats 4000000 in
set_option maxRecDepth 100000 in
theorem get_c (S : Nat → Prop) (p : Option Addr) (n c : Nat) (L : List UInt8) (w : World) (hR : Rd w S p L) (hp : p = none → c = 0) (hl : L.length ≤ 140737488355328) (hn : L.length = n) :
    Calls Tryz.prog 120 #[.slice p n c] w (GetR w L) := by
  have hz := run_zeroS
  have hB : Below w.heap.size w (w.alloc (.cells zC 71)) := (Below.refl _ _).alloc (Nat.le_refl _) _
  have HR := Lib.hid (And.intro (hR.below hB) (And.intro hB (And.intro hn (heap_alloc_new w (.cells zC 71)))))
  clear hR hB
  go_enter Tryz.func120, Tryz.ntmps120
  go_upto_region 3 with (first
    | (go_at_call 74; refine (new_c S _ n c L _ HR.out.1 hp hl HR.out.2.2.1).mono ?_; rintro e w1 ⟨r, g, rfl, q1, q2, q3, q4, q5⟩)
    | (go_at_call 20; refine (snew_c _).mono ?_; rintro e w2 ⟨rfl, b2⟩)
    | (refine wpList_store_row rfl 71 (.tmp 6) (.tmp 14) rfl w2.heap.size nC rfl rfl 71 zC (heap_alloc_new w2 _) (by rw [nC_size]; exact Tryz.infoS) (by rw [nC_size, zC_size]) nC_one ?_))
  have hG0 : Gx w r g w.heap.size w2.heap.size (L, 0) nSt (.slice none 0 0) (.slice none 0 0) (.slice none 0 0) ((w2.alloc (.cells zC 71)).setRow w2.heap.size nC) := by
    have hz0 : (w.alloc (.cells zC 71)).heap.size = w.heap.size + 1 := by simp
    have hz1 := q5.size
    have hz2 := b2.size
    have hgl := q4.glt
    have B1 : Below w.heap.size w w1 := HR.out.2.1.trans (q5.mono HR.out.2.1.size)
    have B2 : Below w.heap.size w w2 := B1.trans (b2.mono B1.size)
    have hal : Only (fun _ => False) w2 (w2.alloc (.cells zC 71)) := (Only.refl _ w2).alloc _
    have hrw : Only (· = w2.heap.size) (w2.alloc (.cells zC 71)) ((w2.alloc (.cells zC 71)).setRow w2.heap.size nC) := only_setRowS (q := fun k => k = w2.heap.size) _ _ _ rfl
    have hO : Only (fun k => k = w2.heap.size) w2 ((w2.alloc (.cells zC 71)).setRow w2.heap.size nC) := hal.trans hrw (fun _ h => h.elim) (fun _ _ h => h)
    have z2 : w2.heap[w.heap.size]? = some (.cells zC 71 (0, 0)) := (b2.block _ (by omega)).trans ((q5.block _ (by omega)).trans HR.out.2.2.2)
    refine ⟨(q4.only (Only.of_below (r := fun _ => False) b2) (fun h => h) (fun h => h)).only hO (by show ¬ r = _; omega) (by show ¬ g = _; omega), hl, (hO.block _ (by omega) (by show ¬ w.heap.size = _; omega)).trans z2, ⟨nC, setRow_heap _ _ zC nC _ _ (heap_alloc_new w2 _), nC_ok⟩, Sn.nil _ _ _ _, Sn.nil _ _ _ _, Sn.nil _ _ _ _, below_only B2 B2.size hO (by intro k hk e; omega), by omega, by omega, by omega, by omega, by omega, by omega, by omega, by omega⟩
  generalize w2.heap.size = R6 at *
  generalize (w2.alloc (.cells zC 71)).setRow R6 nC = wa at *
  obtain ⟨R2, hR2⟩ : ∃ R2, R2 = w.heap.size := ⟨_, rfl⟩
  clear q1 q2 q3 q4 q5 b2
  go_upto_region 4 with (go_at_call 75; refine (gU hG0 _ (by omega)).mono ?_; rintro e w3 ⟨ver, x1, rfl, E1, l1, G1⟩; have H1 := Lib.hid E1; clear E1)
  clear hG0
  go_upto_if 19 with (go_at_call 59; refine (between_b _ _ _ _).mono ?_; rintro e w2 ⟨bt, rfl, hbt, rfl⟩; have HBT := Lib.hid hbt; clear hbt)
  go_cut [21] (fun v21 wx => ∃ x2 : RS, x2 = (if 1 ≤ ver ∧ ver ≤ 3 then x1 else fS x1) ∧ Gx w r g w.heap.size R6 x2 nSt (.slice none 0 0) (.slice none 0 0) (.slice none 0 0) wx)
  case first =>
    cases bt
    · have hv : ¬ (1 ≤ ver ∧ ver ≤ 3) := by have := of_decide_eq_false HBT.out.symm; omega
      have HV := Lib.hid hv
      clear hv
      go_wp2_with (go_at_call 154; refine (gF G1).mono ?_; rintro e w4 ⟨rfl, G2⟩)
      go_meet
      exact ⟨fS x1, by rw [if_neg HV.out], G2⟩
    · have hv : 1 ≤ ver ∧ ver ≤ 3 := by have := of_decide_eq_true HBT.out.symm; omega
      have HV := Lib.hid hv
      clear hv
      go_wp2
      go_meet
      exact ⟨x1, by rw [if_pos HV.out], G1⟩
  case rest =>
    obtain ⟨x2, E2, G2⟩ := hcut
    have H2 := Lib.hid E2
    clear E2
    go_upto_block 0 with (first
      | (go_at_call 60; refine (sums_c _ _).mono ?_; rintro e w7 ⟨gs, rfl, t1, t2, t3, t4⟩)
      | (go_at_call 119; refine (gV G3 _ _ _).mono ?_; rintro e w5 ⟨p4, n4, c4, v4, x4, rfl, E4, N4, G4⟩; have H4 := Lib.hid E4; clear E4; have c0 := G4.st.c0; have c1 := G4.st.c1; have f0 := G4.st.fr 0; have f1 := G4.st.fr 1)
      | (go_at_call 75; refine (gU G2 _ (by omega)).mono ?_; rintro e w4 ⟨ph, x3, rfl, E3, l3, G3⟩; have H3 := Lib.hid E3; clear E3))
    have G7 := ((G4.w_ph (ph : Int)).w_lg (N4.set ⟨R6, 0, none⟩ (.int .i64 (ph : Int)) rfl)).keep (Only.of_below t4)
    have hgs : w.heap.size ≤ gs ∧ gs ≠ r ∧ gs ≠ R6 := by
      have h1 := G4.bel.size
      have h2 := G4.cur.lt
      have h3 := G4.st.lt
      have h4 : gs ≥ w5.heap.size := by simpa using t1
      omega
    have HT := Lib.hid t3
    have ht2 := t2
    clear t1 t3 t4 c0 c1 f0 f1 G2 G3 G4 N4 t2
    go_cut [30] (fun v30 wx => Gx w r g w.heap.size R6 (smS 7 x4).2 { nSt with ph := (ph : Int), lg := v4, sm := (smS 7 x4).1 } (.slice p4 n4 c4) (.slice none 0 0) (.slice none 0 0) wx)
    case first =>
      go_wp2_with fail
      go_loopw [30] (fun v30 wr => GL w r g w.heap.size R6 gs x4 { nSt with ph := (ph : Int), lg := v4 } (.slice p4 n4 c4) v30 wr) (fun v30 _ => 7 - (intOf v30).toNat)
      case atStart => exact ⟨0, rfl, by omega, by simpa [smS, nSt, zSt] using G7, ht2, hgs.1, hgs.2.1, hgs.2.2, HT.out⟩
      case round =>
        obtain ⟨i, rfl, hi, hG, u1, u2, u3, u4, hp⟩ := hrel
        by_cases hlt : i < 7
        · have d0 := hp i hlt
          have HP := Lib.hid hp
          have hGd := hG.keep (Only.drew (Only.refl (fun _ => False) wr))
          clear hp
          go_upto_region 10 with (fail)
          go_region_held3 (fun _ => True) (first | trivial) (first
            | (go_at_call 76; refine (gB (by first | with_reducible exact hGd | with_reducible exact hG) _).mono ?_; rintro e w8 ⟨p5, n5, c5, v5, x5, rfl, E5, N5, G5, O5⟩; have H5 := Lib.hid E5; clear E5; have l32 : v5.length ≤ 32 := (by rw [H5.out.1]; exact bN_le _ 32))
            | (refine step_copy rfl (.tmp 36) (.tmp 38) 38 38 rfl _ _ (by simp [Act.eval]) (by simp [Act.eval]) (run_copy_sum G5 i hlt N5 l32 _) ?_))
          all_goals
            have G6 := G5.copy i hlt v5 l32
            have hst := smS_step x4 i hlt v5 H5.out.1
            have hx5 : x5 = (smS (i + 1) x4).2 := H5.out.2
            simp only at G6
            rw [hst, hx5] at G6
            have u5 : gs < (w8.setCells R6 (2 + 32 * i) (v5.map B8)).heap.size := Nat.lt_of_lt_of_le (Nat.lt_of_lt_of_le u1 O5.size) (only_setCells (q := fun k => k = R6) R6 rfl _ _ _).size
            have HP2 := Lib.hid (fun k (hk : k < 7) => ((only_cell (only_setCells (q := fun k => k = R6) R6 rfl (v5.map B8) (2 + 32 * i) w8) (p := ⟨gs, k, none⟩) (Nat.lt_of_lt_of_le u1 O5.size) (by show ¬ gs = R6; exact u4)).trans (only_cell O5 (p := ⟨gs, k, none⟩) u1 (by show ¬ gs = r; exact u3))).trans (HP.out k hk))
            clear hst hx5 d0 hG hGd G5 O5 N5
            go_wp2
            exact ⟨⟨i + 1, by simp, by omega, G6, u5, u2, u3, u4, HP2.out⟩, by simp [intOf]; omega⟩
        · have hi7 : i = 7 := by omega
          have hi8 : ¬ (i : Int) < 7 := by omega
          have hG2 : Gx w r g w.heap.size R6 (smS 7 x4).2 { nSt with ph := (ph : Int), lg := v4, sm := (smS 7 x4).1 } (.slice p4 n4 c4) (.slice none 0 0) (.slice none 0 0) wr := by
            rw [hi7] at hG
            simpa using hG
          clear hG hp hi7
          go_wp2
          go_meet
          exact hG2
    case rest =>
      have G8 := hcut
      have hcut := G8
      clear hcut
      generalize hx5 : (smS 7 x4).2 = x5 at *
      generalize hsm : (smS 7 x4).1 = sm5 at *
      have H5 := Lib.hid (And.intro hsm.symm hx5.symm)
      clear hsm hx5 HT
      go_upto_region 13 with (first
        | (go_at_call 75; have hq := G9; refine (gU G9 _ (by omega)).mono ?_; rintro e w10 ⟨b, x7, rfl, E7, l7, G10⟩; have H7 := Lib.hid E7; clear E7; have f0 := G10.st.fr 226; have f1 := G10.st.fr 227; have c0 := G10.st.c226; have c1 := G10.st.c227)
        | (go_at_call 75; refine (gU G8 _ (by omega)).mono ?_; rintro e w9 ⟨a, x6, rfl, E6, l6, G9⟩; have H6 := Lib.hid E6; clear E6))
      have G12 := (G10.w_a (a : Int)).w_b (b : Int)
      clear f0 f1 c0 c1 G8 G9 G10
      go_upto_region 14 with (first
        | (go_at_call 75; have hq := G13; refine (gU G13 _ (by omega)).mono ?_; rintro e w14 ⟨d, x9, rfl, E9, l9, G14⟩; have H9 := Lib.hid E9; clear E9; have f0 := G14.st.fr 228; have f1 := G14.st.fr 229; have c0 := G14.st.c228; have c1 := G14.st.c229)
        | (go_at_call 75; refine (gU G12 _ (by omega)).mono ?_; rintro e w13 ⟨c', x8, rfl, E8, l8, G13⟩; have H8 := Lib.hid E8; clear E8))
      have G16 := (G14.w_c (c' : Int)).w_d (d : Int)
      clear f0 f1 c0 c1 G12 G13 G14
      go_upto_region 15 with (go_at_call 75; refine (gU G16 _ (by omega)).mono ?_; rintro e w17 ⟨sealed, x10, rfl, E10, l10, G17⟩; have H10 := Lib.hid E10; clear E10)
      go_upto_if 62 with (go_at_call 119; refine (gV G17 _ _ _).mono ?_; rintro e w18 ⟨p11, n11, k11, v11, x11, rfl, E11, N11, G18⟩; have H11 := Lib.hid E11; clear E11; have f0 := G18.st.fr 230; have f1 := G18.st.fr 231; have c0 := G18.st.c230; have c1 := G18.st.c231)
      have G20 : Gx w r g w.heap.size R6 x11 ⟨ph, v4, sm5, a, b, c', d, (sealed : Int) == 1, v11, [], -1⟩ (.slice p4 n4 c4) (.slice p11 n11 k11) (.slice none 0 0) ((w18.setCell ⟨R6, 230, none⟩ (.bool ((sealed : Int) == 1))).setCell ⟨R6, 231, none⟩ (.slice p11 n11 k11)) := (G18.w_sl ((sealed : Int) == 1)).w_pt (N11.set _ _ rfl)
      clear f0 f1 c0 c1 G16 G17 G18 N11
      generalize (w18.setCell ⟨R6, 230, none⟩ (.bool ((sealed : Int) == 1))).setCell ⟨R6, 231, none⟩ (.slice p11 n11 k11) = w20 at *
      go_cut [64] (fun v64 wx => ∃ (p12 : Option Addr) (n12 k12 : Nat) (v12 : List UInt8) (x12 : RS), (v12 = (if 2 ≤ ver then vN x11 1 0 255 else []) ∧ x12 = (if 2 ≤ ver then vS x11 1 0 255 else x11)) ∧ Gx w r g w.heap.size R6 x12 ⟨ph, v4, sm5, a, b, c', d, (sealed : Int) == 1, v11, v12, -1⟩ (.slice p4 n4 c4) (.slice p11 n11 k11) (.slice p12 n12 k12) wx)
      case first =>
        by_cases hv : 2 ≤ ver
        · have hv2 : (2 : Int) ≤ (ver : Int) := by omega
          have HV := Lib.hid hv
          clear hv
          go_wp2_with (go_at_call 119; refine (gV G20 _ _ _).mono ?_; rintro e w21 ⟨p12, n12, k12, v12, x12, rfl, E12, N12, G21⟩; have H12 := Lib.hid E12; clear E12; have f0 := G21.st.fr 232; have c0 := G21.st.c232)
          go_meet
          exact ⟨p12, n12, k12, v12, x12, by rw [if_pos HV.out, if_pos HV.out]; exact H12.out, G21.w_us N12⟩
        · have hv2 : ¬ (2 : Int) ≤ (ver : Int) := by omega
          have HV := Lib.hid hv
          clear hv
          go_wp2
          go_meet
          exact ⟨none, 0, 0, [], x11, by rw [if_neg HV.out, if_neg HV.out]; exact ⟨rfl, rfl⟩, G20⟩
      case rest =>
        obtain ⟨p12, n12, k12, v12, x12, E12, G22⟩ := hcut
        have H12 := Lib.hid E12
        clear E12 G20
        go_upto_if 67 with (fail)
        go_cut [69] (fun v69 wx => ∃ (al : Int) (y : RS), (al = (if 3 ≤ ver then ((uN x12 2 : Nat) : Int) - 1 else -1) ∧ y = (if 3 ≤ ver then uS x12 2 else x12)) ∧ Gx w r g w.heap.size R6 y ⟨ph, v4, sm5, a, b, c', d, (sealed : Int) == 1, v11, v12, al⟩ (.slice p4 n4 c4) (.slice p11 n11 k11) (.slice p12 n12 k12) wx)
        case first =>
          by_cases hv : 3 ≤ ver
          · have hv2 : (3 : Int) ≤ (ver : Int) := by omega
            have HV := Lib.hid hv
            clear hv
            go_wp2_with (go_at_call 75; refine (gU G22 _ (by omega)).mono ?_; rintro e w23 ⟨al, y, rfl, E13, l13, G23⟩; have H13 := Lib.hid E13; clear E13; have f0 := G23.st.fr 233; have c0 := G23.st.c233)
            go_meet
            exact ⟨(al : Int) - 1, y, by rw [if_pos HV.out, if_pos HV.out]; exact ⟨by rw [H13.out.1], H13.out.2⟩, G23.w_al ((al : Int) - 1)⟩
          · have hv2 : ¬ (3 : Int) ≤ (ver : Int) := by omega
            have HV := Lib.hid hv
            clear hv
            go_wp2
            go_meet
            exact ⟨-1, x12, by rw [if_neg HV.out, if_neg HV.out]; exact ⟨rfl, rfl⟩, G22⟩
        case rest =>
          obtain ⟨al, y, E13, G24⟩ := hcut
          have H13 := Lib.hid E13
          clear E13 G22
          have hGo : Go1 L ver ⟨ph, v4, sm5, a, b, c', d, (sealed : Int) == 1, v11, v12, al⟩ sealed y := by
            refine ⟨x1, x2, x3, x4, x5, x6, x7, x8, x9, x10, x11, x12, H1.out, H2.out, ?_, H4.out, H5.out, ?_, ?_, ?_, ?_, H10.out, ?_, H11.out, H12.out, H13.out⟩
            · exact ⟨by rw [← H3.out.1], H3.out.2⟩
            · exact ⟨by rw [← H6.out.1], H6.out.2⟩
            · exact ⟨by rw [← H7.out.1], H7.out.2⟩
            · exact ⟨by rw [← H8.out.1], H8.out.2⟩
            · exact ⟨by rw [← H9.out.1], H9.out.2⟩
            · show ((sealed : Int) == 1) = decide (sealed = 1)
              rw [Bool.eq_iff_iff]
              simp
              omega
          have HGO := Lib.hid hGo
          generalize hsv : (⟨ph, v4, sm5, a, b, c', d, (sealed : Int) == 1, v11, v12, al⟩ : St) = sv at *
          clear hGo hsv
          have hbz := run_buildZ
          by_cases hde : doneS y.1 y.2 = 0
          · have HDE := Lib.hid hde
            clear hde
            have hcur := G24.cur
            by_cases hs1 : 1 < sealed
            · have hs2 : (1 : Int) < (sealed : Int) := by omega
              have hge : getE sv sealed y = 3 := by unfold getE; rw [HDE.out, if_neg (by simp), if_pos (.inl hs1)]
              have HGE := Lib.hid hge
              clear hge hs1
              go_wp2_with (first
                | (go_at_call 82; refine (done_c r g y.1 y.2 _ hcur).mono ?_; rintro e w25 ⟨rfl, rfl⟩; rw [HDE.out])
                | (refine wpList_store_row rfl 71 (.tmp 2) (.tmp 87) rfl w.heap.size zC rfl rfl 71 zC G24.z2 (by rw [zC_size]; exact Tryz.infoS) rfl zC_one ?_))
              exact bodyPost_ret (v := .tuple #[.agg zC, .int .i64 0, .int .i64 3]) (results_cttS (fn := Tryz.f120) 2 3 4 rfl _ _ w.heap.size 71 zC (0, 0) _ _ _ rfl rfl rfl (setRow_heap _ _ zC zC _ _ G24.z2) Tryz.underlying71 rfl (by rw [zC_size]; exact Tryz.infoS)) rfl (GetR.zero HGO.out G24 HGE.out (by decide))
            · have hs2 : decide ((1 : Int) < (sealed : Int)) = false := decide_eq_false (by omega)
              obtain ⟨C, hCr, hCl, hC⟩ := G24.st.whole
              have hIs : IsSt wc C sv := ⟨_, _, _, hC, G24.s1.sl, G24.s2.sl, G24.s3.sl⟩
              have HCL := Lib.hid hCl
              have hone : C.all (·.oneCell') = true := hC.one rfl rfl rfl
              have HC := Lib.hid (And.intro hC hone)
              clear hCl hC hone
              by_cases hok : okS sv
              · have hd : decide (okS sv) = true := decide_eq_true hok
                have hge : getE sv sealed y = 0 := by unfold getE; rw [HDE.out, if_neg (by simp), if_neg (by intro h; rcases h with h | h; exact hs1 h; exact h hok)]
                have HGE := Lib.hid hge
                clear hge hs1 hok
                go_wp2_with (first
                  | (go_at_call 82; refine (done_c r g y.1 y.2 _ hcur).mono ?_; rintro e w25 ⟨rfl, rfl⟩; rw [HDE.out])
                  | (go_at_call 58; refine (right_s C sv _ hIs).mono ?_; rintro e w26 ⟨rfl, b26⟩; have hCr2 : w26.rangeAt R6 0 C.toList := (fun j v hv => (b26.cell (p := ⟨R6, 0 + j, none⟩) (World.block_lt_of_cell? _ _ (hCr j v hv))).trans (hCr j v hv)); have G26 := G24.keep (Only.of_below b26))
                  | (refine wpList_load_wanted (by rfl) 71 (.tmp 6) rfl R6 0 rfl C.toList _ hCr Tryz.underlying71 rfl (by rw [HCL.out]; exact Tryz.infoS) ?_; rw [Array.toArray_toList])
                  | (have hq := hCr2; refine wpList_load_mid rfl 71 (.tmp 6) rfl R6 0 rfl C.toList _ hCr2 Tryz.underlying71 rfl (by rw [HCL.out]; exact Tryz.infoS) ?_; rw [Array.toArray_toList])
                  | (refine wpList_store_row rfl 71 (.tmp 2) (.tmp 88) rfl w.heap.size C rfl rfl 71 zC G26.z2 (by rw [HC.out.1.size]; exact Tryz.infoS) (by rw [zC_size, HC.out.1.size]) HC.out.2 ?_))
                exact bodyPost_ret (v := .tuple #[.agg C, .int .i64 (ver : Int), .int .i64 0]) (results_cttS (fn := Tryz.f120) 2 3 4 rfl _ _ w.heap.size 71 C (0, 0) _ _ _ rfl rfl rfl (setRow_heap _ _ zC C _ _ G26.z2) Tryz.underlying71 rfl (by rw [HC.out.1.size]; exact Tryz.infoS)) rfl (GetR.one HGO.out G26 HC.out.1 HGE.out)
              · have hd : decide (okS sv) = false := decide_eq_false hok
                have hge : getE sv sealed y = 3 := by unfold getE; rw [HDE.out, if_neg (by simp), if_pos (.inr hok)]
                have HGE := Lib.hid hge
                clear hge hs1 hok
                go_wp2_with (first
                  | (go_at_call 82; refine (done_c r g y.1 y.2 _ hcur).mono ?_; rintro e w25 ⟨rfl, rfl⟩; rw [HDE.out])
                  | (go_at_call 58; refine (right_s C sv _ hIs).mono ?_; rintro e w26 ⟨rfl, b26⟩; have G26 := G24.keep (Only.of_below b26))
                  | (refine wpList_load_wanted (by rfl) 71 (.tmp 6) rfl R6 0 rfl C.toList _ hCr Tryz.underlying71 rfl (by rw [HCL.out]; exact Tryz.infoS) ?_; rw [Array.toArray_toList])
                  | (refine wpList_store_row rfl 71 (.tmp 2) (.tmp 87) rfl w.heap.size zC rfl rfl 71 zC G26.z2 (by rw [zC_size]; exact Tryz.infoS) rfl zC_one ?_))
                exact bodyPost_ret (v := .tuple #[.agg zC, .int .i64 0, .int .i64 3]) (results_cttS (fn := Tryz.f120) 2 3 4 rfl _ _ w.heap.size 71 zC (0, 0) _ _ _ rfl rfl rfl (setRow_heap _ _ zC zC _ _ G26.z2) Tryz.underlying71 rfl (by rw [zC_size]; exact Tryz.infoS)) rfl (GetR.zero HGO.out G26 HGE.out (by decide))
          · have HDE := Lib.hid hde
            clear hde
            have hcur := G24.cur
            generalize hdg : doneS y.1 y.2 = de at HDE
            have hge : getE sv sealed y = de := by rw [getE_bad _ _ _ (by rw [hdg]; exact HDE.out), hdg]
            have HDG := Lib.hid (And.intro hdg hge)
            have hd2 : (de != 0) = true := by simpa using HDE.out
            clear hdg hge
            go_wp2_with (first
              | (go_at_call 82; refine (done_c r g y.1 y.2 _ hcur).mono ?_; rintro e w25 ⟨rfl, rfl⟩; rw [HDG.out.1])
              | (refine wpList_store_row rfl 71 (.tmp 2) (.tmp 77) rfl w.heap.size zC rfl rfl 71 zC G24.z2 (by rw [zC_size]; exact Tryz.infoS) rfl zC_one ?_))
            exact bodyPost_ret (v := .tuple #[.agg zC, .int .i64 0, .int .i64 de]) (results_cttS (fn := Tryz.f120) 2 3 4 rfl _ _ w.heap.size 71 zC (0, 0) _ _ _ rfl rfl rfl (setRow_heap _ _ zC zC _ _ G24.z2) Tryz.underlying71 rfl (by rw [zC_size]; exact Tryz.infoS)) rfl (GetR.zero HGO.out G24 HDG.out.2 HDE.out)
end Go.Proofs.YtolgaapiedbkfaaGreat
