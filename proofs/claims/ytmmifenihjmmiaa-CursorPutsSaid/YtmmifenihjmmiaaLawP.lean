/-
  The walk of CursorPuts: it returns true, and changes nothing that lay there. Conditions: those of the rows that are handed over.
-/
import Derived.Test.YtmmifenihjmmiaaLawQ
import Derived.Test.YtmmifenihjmmiaaStepA
import Derived.Deep.RegionHeld3
namespace Go.Proofs.Ytmmifenihjmmiaa
open Go.RowKit Go.Kx

theorem Own.below' {w w' : World} {g : Nat} {v : Value} {l : List UInt8} (h : Own w g v l) (hb : Below w.heap.size w w') : Own w' g v l := h.only (Only.of_below (r := fun _ => False) hb) (fun h => h)

theorem Own.parts {w : World} {g : Nat} {p : Option Addr} {n c : Nat} {l : List UInt8} (h : Own w g (.slice p n c) l) : l.length = n ∧ (p = none → c = 0) ∧ Rd w (· = g) p l := by
  obtain ⟨p', c', he, _, _, hR, hN, _⟩ := h.form
  cases he
  exact ⟨rfl, hN, hR⟩

theorem hop3 (n : Int) : ∃ K : Nat, IntKind.i64.wrap ((IntKind.u64.wrap n).tmod 3) = (K : Int) ∧ K < 3 := by
  have h0 : 0 ≤ IntKind.u64.wrap n := by rw [IntKind.wrap_u64]; omega
  rw [Int.tmod_eq_emod_of_nonneg h0]
  generalize IntKind.u64.wrap n = y at h0
  have h1 : 0 ≤ y % 3 ∧ y % 3 < 3 := ⟨Int.emod_nonneg _ (by omega), Int.emod_lt_of_pos _ (by omega)⟩
  generalize y % 3 = x at h1
  rw [IntWalk.i64_in x ⟨by omega, by omega⟩]
  exact ⟨x.toNat, by omega, by omega⟩

set_option maxHeartbeats 20000000 in
set_option maxRecDepth 100000 in
theorem puts_law (p0 p1 : Option Addr) (n0 c0 n1 c1 : Nat) (l0 l1 : List UInt8) (n width : Int) (w : World) (h0 : Rd w (· < w.heap.size) p0 l0) (hn0 : l0.length = n0) (hm0 : c0 ≤ maxLen) (hc0 : n0 ≤ c0) (hp0 : p0 = none → c0 = 0)
    (h1 : Rd w (· < w.heap.size) p1 l1) (hn1 : l1.length = n1) (hm1 : c1 ≤ maxLen) (hc1 : n1 ≤ c1) (hp1 : p1 = none → c1 = 0) :
    Calls Try.prog 4 #[.slice p0 n0 c0, .slice p1 n1 c1, .agg #[.int .i64 n, .int .i64 width]] w fun e w' => e = .returned (.bool true) ∧ Below w.heap.size w w' := by
  unfold maxLen at hm0 hm1
  obtain ⟨N, hN⟩ : ∃ N, N = min n0 20 := ⟨_, rfl⟩
  obtain ⟨M, hM⟩ : ∃ M, M = min n1 80 := ⟨_, rfl⟩
  have hmin0 : min (n0 : Int) 20 = (N : Int) := by omega
  have hmin1 : min (n1 : Int) 80 = (M : Int) := by omega
  have hN1 : N ≤ 20 := by omega
  have hN2 : N ≤ c0 := by omega
  have hM1 : M ≤ 80 := by omega
  have hM2 : M ≤ c1 := by omega
  have hl : (l0.take N).length = N := by rw [List.length_take]; omega
  have hR := h0.take N
  have hl1 : (l1.take M).length = M := by rw [List.length_take]; omega
  have hR1 := h1.take M
  have HL := Lib.hid (And.intro hl hR)
  have HL1 := Lib.hid (And.intro hl1 hR1)
  have HMIN := Lib.hid (And.intro hmin0 hmin1)
  clear h0 hn0 hN hl hR h1 hn1 hM hl1 hR1 hmin0 hmin1
  generalize hlt : l0.take N = l at *
  generalize hlt1 : l1.take M = v at *
  clear hlt l0 hlt1 l1
  obtain ⟨K, hK, hK3⟩ := hop3 n
  have hK120 : IntKind.i64.wrap ((K : Int) * 120) = ((K * 120 : Nat) : Int) := by rw [IntWalk.i64_in _ ⟨by omega, by omega⟩]; omega
  go_enter Try.func4, Try.ntmps4
  go_upto_region 1 with (fail)
  have hbox : Box2 (w.alloc (.cells #[.int .i64 n, .int .i64 width] 36)) w.heap.size 36 (.int .i64 n) (.int .i64 width) := Box2.new _ _ _ _
  have hbel : Below w.heap.size w (w.alloc (.cells #[.int .i64 n, .int .i64 width] 36)) := (Below.refl _ _).alloc (Nat.le_refl _) _
  have hz1 : (w.alloc (.cells #[.int .i64 n, .int .i64 width] 36)).heap.size = w.heap.size + 1 := by simp
  generalize w.alloc (.cells #[.int .i64 n, .int .i64 width] 36) = W1 at *
  obtain ⟨B, hB⟩ : ∃ B, B = w.heap.size := ⟨_, rfl⟩
  rw [← hB] at hbox hz1 ⊢
  have HBE := Lib.hid hB
  -- the two appends, laid ahead
  have hown : Own (W1.alloc (.cells #[] 5)).drew W1.heap.size (.slice (some ⟨W1.heap.size, 0, none⟩) 0 0) [] := Own.new W1
  have hRv : Rd (W1.alloc (.cells #[] 5)).drew (· < w.heap.size) p1 v := (HL1.out.2.below hbel).below ((Below.refl _ W1).alloc (Nat.le_refl _) (.cells #[] 5)).drew
  obtain ⟨g2, v2, w2, hr2, ho2, hg2, hO2⟩ := run_append_bytes (P := Try.prog) (W1.alloc (.cells #[] 5)).drew 24 24 Try.underlying24 Try.info5 _ _ [] hown (· < w.heap.size) p1 M c1 v HL1.out.1 hp1 hRv (by rw [HL1.out.1]; show 0 + M ≤ _; omega)
  obtain ⟨g3, v3, w3, hr3, ho3, hg3, hO3⟩ := run_append_zeros (P := Try.prog) w2 24 3 24 .i64 .i64 Try.underlying24 Try.underlying3 Try.info5 g2 v2 _ ho2 (K * 120) (by rw [List.length_append, HL1.out.1]; show 0 + M + _ ≤ _; omega)
  have hW2 : Only (· = W1.heap.size) W1 w2 := (((Only.refl (fun k => k = W1.heap.size) W1).alloc (.cells #[] 5)).drew).then hO2
  have hW3 : Only (fun k => k = W1.heap.size ∨ k = g2) W1 w3 := (hW2.mono (fun _ _ h => .inl h)).trans (hO3.mono (fun _ _ h => .inr h)) (fun _ h => h) (fun _ _ h => h)
  have hb0 := hbox
  have hba := hbox.only ((Only.refl (fun _ => False) W1).alloc (.cells #[] 5)) (fun h => h)
  have hb2 := hbox.only hW2 (by show ¬ B = _; omega)
  have hb3 := hbox.only hW3 (by show ¬ (B = _ ∨ B = _); simp only [World.size_alloc, World.size_drew] at hg2; omega)
  have a0 := hb0.c0
  have a1 := hba.c0
  have a2 := hb2.c0
  have a3 := hb3.c0
  have HO3 := Lib.hid ho3
  have HW3 := Lib.hid hW3
  have HB3 := Lib.hid hb3
  have HBB := Lib.hid hbel
  have HG := Lib.hid (And.intro hg2 hg3)
  have hT : ([] ++ v ++ List.replicate (K * 120) (0 : UInt8)).length ≤ 320 := by rw [List.length_append, List.length_append, HL1.out.1, List.length_replicate]; show 0 + M + _ ≤ _; omega
  clear hg2 hg3 hbel hown hRv ho2 hO2 ho3 hO3 hW2 hW3 hb0 hba hb2 hb3 hB
  obtain ⟨vv, hvv⟩ : ∃ vv, vv = [] ++ v ++ List.replicate (K * 120) (0 : UInt8) := ⟨_, rfl⟩
  obtain ⟨p3, c3, rfl, f1, f2, f3, f4, f5⟩ := HO3.out.form
  rw [← hvv] at hT f1 f3 hr3
  obtain ⟨T, hTT⟩ : ∃ T, vv.length = T := ⟨_, rfl⟩
  rw [hTT] at hT f1 hr3
  have HF := Lib.hid (And.intro hTT (And.intro f3 f4))
  clear hvv hTT f3 f4 HO3
  have hK' : IntKind.i64.wrap ((IntKind.u64.wrap n).tmod 3) = (K : Int) := hK
  have hx : Value.int .i64 ((K * 120 : Nat) : Int) = .int .i64 (IntKind.i64.wrap (IntKind.i64.wrap ((IntKind.u64.wrap n).tmod 3) * 120)) := by rw [hK', hK120]
  rw [hx] at hr3
  clear hx hK' hK120 hK
  go_cut [0, 1] (fun v0 v1 wx => v0 = .slice p0 N c0 ∧ v1 = .slice p3 T c3 ∧ w3 = wx)
  case first =>
    go_region_held3 (fun w' => w'.cell? ⟨B, 0, none⟩ = some (.int .i64 n)) (first | exact a2 | exact a3 | go_keep) (first
      | (refine step_min rfl (.tmp 20) (.const (.int .i64 20)) 3 3 rfl (n0 : Int) 20 (N : Int) (by simp [Act.eval]) (by simp [Act.eval]) HMIN.out.1 ?_)
      | (refine step_min rfl (.tmp 26) (.const (.int .i64 80)) 3 3 rfl (n1 : Int) 80 (M : Int) (by simp [Act.eval]) (by simp [Act.eval]) HMIN.out.2 ?_)
      | (refine step_builtin rfl (.tmp 23) (.tmp 28) 24 24 rfl _ _ (by simp [Act.eval]) (by simp [Act.eval]) hr2 ?_)
      | (refine step_builtin rfl (.tmp 29) (.tmp 35) 24 3 rfl _ _ (by simp [Act.eval]) (by simp [Act.eval]) hr3 ?_))
    all_goals go_wp2
    all_goals go_meet
    all_goals exact ⟨rfl, rfl, rfl⟩
  case rest =>
  obtain ⟨rfl, rfl, rfl⟩ := hcut
  clear hr2 hr3 a0 a1 a2 a3
  have hb3 : Below w.heap.size w w3 := below_only HBB.out HBB.out.size HW3.out (by intro k hk e; have := HBE.out; have h1 := HG.out.1; have h2 := HBB.out.size; rcases e with e | e <;> (try simp only [World.size_alloc, World.size_drew] at h1) <;> omega)
  have c0' := HB3.out.c0
  have c1' := HB3.out.c1
  go_upto_region 2 with (fail)
  go_quiet (fail)
  have hb4 : Below w.heap.size w (w3.drewN nq) := below_only hb3 hb3.size (Only.drewN nq (Only.refl (fun _ => False) w3)) (fun _ _ h => h)
  have hv4 : Rd (w3.drewN nq) (· = g3) p3 vv := HF.out.2.1.only (Only.drewN nq (Only.refl (fun _ => False) w3)) (fun _ _ h => h)
  have hl4 : Rd (w3.drewN nq) (· < w.heap.size) p0 l := HL.out.2.below hb4
  have hlN := HL.out.1
  have hvT := HF.out.1
  have hp3 := HF.out.2.2
  generalize w3.drewN nq = W4 at *
  have HB4 := Lib.hid hb4
  have HV4 := Lib.hid hv4
  have HL4 := Lib.hid hl4
  have HLN := Lib.hid (And.intro hlN hvT)
  clear hb3 c0' c1' hb4 hv4 hl4 hlN hvT HB3 HW3 HG HBB HBE HMIN HL HL1 HF
  obtain ⟨X, hX⟩ : ∃ X, X = putS l n width := ⟨_, rfl⟩
  obtain ⟨Y, hY⟩ : ∃ Y, Y = vecP l vv width := ⟨_, rfl⟩
  obtain ⟨ok, hok⟩ : ∃ ok, ok = decide (putOk n width) := ⟨_, rfl⟩
  obtain ⟨is, his⟩ : ∃ is, is = decide (putOk (vv.length : Int) width) := ⟨_, rfl⟩
  have hXl : X.length ≤ 24 ∧ decide ((0 : Int) < (X.length : Int)) = ok := by
    rw [hX, hok]
    unfold putS
    by_cases h : putOk n width
    · rw [if_pos h, List.length_append, be_length, HLN.out.1]
      have := h.1
      exact ⟨by omega, by rw [Bool.eq_iff_iff]; simp [h]; omega⟩
    · rw [if_neg h]; simp [h]
  have hYl : Y.length ≤ 344 ∧ decide ((0 : Int) < (Y.length : Int)) = is := by
    rw [hY, his]
    unfold vecP
    rw [HLN.out.2]
    by_cases h : putOk (T : Int) width
    · rw [if_pos h, List.length_append, List.length_append, be_length, HLN.out.1, HLN.out.2]
      have := h.1
      exact ⟨by omega, by rw [Bool.eq_iff_iff]; simp [h]; omega⟩
    · rw [if_neg h]; simp [h]
  have HX := Lib.hid hX
  have HY := Lib.hid hY
  have HOK := Lib.hid (And.intro hok his)
  have HXL := Lib.hid (And.intro hXl hYl)
  clear hX hY hok his hXl hYl
  go_upto_region 7 with (first
    | (go_at_call 7; refine (put_any (· < w.heap.size) p0 N c0 l n width _ HL4.out hp0 (by rw [HLN.out.1]; omega) HLN.out.1).mono ?_; rintro e w4 ⟨g4, p4, n4, c4, rfl, l4, z4, o4, b4⟩)
    | (go_at_call 16; refine (rput_any (· < w.heap.size) p0 N c0 l n width _ (HL4.out.below b4) hp0 (by rw [HLN.out.1]; omega) HLN.out.1).mono ?_; rintro e w5 ⟨g5, p5, n5, c5, rfl, l5, z5, o5, b5⟩)
    | (go_at_call 8; refine (vec_any (· < w.heap.size) (· = g3) p0 p3 N c0 T c3 l vv width _ ((HL4.out.below b4).below b5) hp0 HLN.out.1 ((HV4.out.below b4).below b5) hp3 HLN.out.2 (by rw [HLN.out.1, HLN.out.2]; omega)).mono ?_; rintro e w6 ⟨g6, p6, n6, c6, rfl, l6, z6, o6, b6⟩)
    | (go_at_call 17; refine (rvec_any (· < w.heap.size) (· = g3) p0 p3 N c0 T c3 l vv width _ (((HL4.out.below b4).below b5).below b6) hp0 HLN.out.1 (((HV4.out.below b4).below b5).below b6) hp3 HLN.out.2 (by rw [HLN.out.1, HLN.out.2]; omega)).mono ?_; rintro e w7 ⟨g7, p7, n7, c7, rfl, l7, z7, o7, b7⟩))
  rw [← HX.out] at l4 o4 l5 o5
  rw [← HY.out] at l6 o6 l7 o7
  rw [← HOK.out.1, ← HOK.out.2]
  have gx : decide ((0 : Int) < (n4 : Int)) = ok := by rw [← l4]; exact HXL.out.1.2
  have gy : decide ((0 : Int) < (n6 : Int)) = is := by rw [← l6]; exact HXL.out.2.2
  have gx' : decide (0 < n4) = ok := by rw [← gx]; simp
  have gy' : decide (0 < n6) = is := by rw [← gy]; simp
  have B7 : Below w.heap.size w w7 := HB4.out.trans ((b4.mono HB4.out.size).trans ((b5.mono (Nat.le_trans HB4.out.size b4.size)).trans ((b6.mono (Nat.le_trans HB4.out.size (Nat.le_trans b4.size b5.size))).trans (b7.mono (Nat.le_trans HB4.out.size (Nat.le_trans b4.size (Nat.le_trans b5.size b6.size)))))))
  have X7 := Lib.hid (And.intro (Own.below' (Own.below' (Own.below' o4 b5) b6) b7) (And.intro (Own.below' (Own.below' o5 b6) b7) (And.intro (Own.below' o6 b7) o7)))
  have V7 := Lib.hid ((((HV4.out.below b4).below b5).below b6).below b7)
  have B7' := Lib.hid B7
  have L7 := Lib.hid (And.intro l4 (And.intro l5 (And.intro l6 l7)))
  clear l4 o4 l5 o5 l6 o6 l7 o7 b4 b5 b6 b7 B7 z4 z5 z6 z7 HL4 HV4 HB4
  go_upto_region 9 with (first
    | (go_at_call 13; refine (puts_c _).mono ?_; rintro e w8 ⟨rfl, b8⟩; have s1 := run_strO (Own.below' X7.out.1 b8) L7.out.1; have s2 := run_strO (Own.below' X7.out.2.1 b8) L7.out.2.1; have s3 := run_strO (Own.below' X7.out.2.2.1 b8) L7.out.2.2.1; have s4 := run_strO (Own.below' X7.out.2.2.2 b8) L7.out.2.2.2))
  have B8 := Lib.hid (B7'.out.trans (b8.mono B7'.out.size))
  have X8 := Lib.hid (And.intro (Own.below' X7.out.1 b8) (Own.below' X7.out.2.2.1 b8))
  have hv8 : Rd w8 (· < w8.heap.size) p3 vv := (V7.out.below b8).mono (fun k hk _ => hk)
  have V8 := Lib.hid hv8
  clear hv8
  clear s1 s2 s3 s4 b8 X7 V7 B7' gx gy gx' gy'
  by_cases hboth : ok = true ∧ is = true
  · obtain ⟨rfl, rfl⟩ := hboth
    have hk1 : putOk n width := of_decide_eq_true HOK.out.1.symm
    have hk2 : putOk (vv.length : Int) width := of_decide_eq_true HOK.out.2.symm
    obtain ⟨nn, hnn⟩ : ∃ N : Nat, n = N := ⟨n.toNat, by have := hk1.2.1; omega⟩
    obtain ⟨W, hWW⟩ : ∃ W : Nat, width = W := ⟨width.toNat, by have := hk1.1; omega⟩
    subst hnn hWW
    obtain ⟨hW, hn⟩ := putOk_nat.1 hk1
    obtain ⟨_, hvn⟩ := putOk_nat.1 hk2
    have hXe : X = l ++ be nn W := by rw [HX.out]; unfold putS; rw [if_pos hk1]; simp
    have hYe : Y = l ++ (be vv.length W ++ (vv ++ [])) := by rw [HY.out]; unfold vecP; rw [if_pos hk2]; simp
    -- what the reads tell
    have ew := wb_ok hW 0
    obtain ⟨p1', p2', p3'⟩ := S_app l (be nn W ++ Y) (N : Int) (by rw [HLN.out.1])
    obtain ⟨q1, q2, q3⟩ := S_app (be nn W) Y (W : Int) (by rw [be_length])
    obtain ⟨r1, r2, r3⟩ := S_app l (be vv.length W ++ (vv ++ [])) (N : Int) (by rw [HLN.out.1])
    rw [← hYe] at r1 r2 r3
    have e1 := beN_be hn
    have e2 := vec_read (v := vv) (t := []) (least := (T : Int)) (most := (T : Int)) hW hvn (by rw [HLN.out.2]; omega) (by rw [HLN.out.2]; omega)
    have hs0 : X ++ Y = l ++ (be nn W ++ Y) := by rw [hXe]; simp
    have hs0l : (X ++ Y).length ≤ 400 := by rw [List.length_append]; have := HXL.out.1.1; have := HXL.out.2.1; omega
    have hlb : (be nn W ++ Y).length ≤ 400 := by rw [List.length_append, be_length]; have := HXL.out.2.1; omega
    have hYl : Y.length ≤ 400 := by have := HXL.out.2.1; omega
    have hlc : (be vv.length W ++ (vv ++ [])).length ≤ 400 := by rw [List.length_append, List.length_append, be_length, HLN.out.2]; show _ + (_ + 0) ≤ _; omega
    have P1 := Lib.hid (And.intro p1' p3')
    have P2 := Lib.hid (And.intro (And.intro ew e1) (And.intro q1 (And.intro q2 q3)))
    have P3 := Lib.hid (And.intro r1 r3)
    have P4 := Lib.hid e2
    have P0 := Lib.hid (And.intro hs0 hs0l)
    have PL := Lib.hid (And.intro hlb (And.intro hYl hlc))
    clear hk1 hk2 hW hn hvn hXe hYe ew p1' p2' p3' q1 q2 q3 r1 r2 r3 e1 e2 hs0 hs0l hlb hYl hlc
    obtain ⟨lx, nx, xR⟩ := Own.parts X8.out.1
    obtain ⟨ly, ny, yR⟩ := Own.parts X8.out.2
    have XR := Lib.hid (And.intro lx xR)
    have YR := Lib.hid (And.intro ly yR)
    clear lx xR ly yR
    obtain ⟨BW, hBW⟩ : ∃ BW, BW = be nn W ++ Y := ⟨_, rfl⟩
    obtain ⟨BV, hBV⟩ : ∃ BV, BV = be vv.length W ++ (vv ++ []) := ⟨_, rfl⟩
    obtain ⟨S0, hS0⟩ : ∃ S0, S0 = l ++ BW := ⟨_, rfl⟩
    rw [← hBW] at P1 P0 PL P2
    rw [← hBV] at P3 PL P4
    rw [← hS0] at P1 P0
    clear hBW hBV hS0
    have hownN := Own.new w8
    have HON := Lib.hid hownN
    have XR1 := Lib.hid (XR.out.2.below ((Below.refl _ w8).alloc (Nat.le_refl _) (.cells #[] 5)))
    have YR1 := Lib.hid (YR.out.2.below ((Below.refl _ w8).alloc (Nat.le_refl _) (.cells #[] 5)))
    clear hownN
    go_wp2_with (at_builtin; refine wpList_append_bytes _ rfl (.tmp 99) (.tmp 100) 24 rfl Try.underlying24 Try.info5 _ _ [] rfl HON.out (· = g4) _ _ _ X rfl XR.out.1 nx XR1.out (by have := HXL.out.1.1; show 0 + _ ≤ _; omega) ?_)
    intro ga va wa ha hga hoa hna
    clear hna
    have zga : ga = w8.heap.size ∨ ga = w8.heap.size + 1 := by simpa using hga
    have hba : Below w8.heap.size w8 wa := (((Only.refl (fun k => k = w8.heap.size) w8).alloc (.cells #[] 5)).then hoa).below (Nat.le_refl _) (by intro k hk e; omega)
    have hya := YR.out.2.below hba
    have HA := Lib.hid ha
    have HYA := Lib.hid hya
    have HBA := Lib.hid hba
    clear ha hya hba hoa hga
    go_wp2_with (at_builtin; refine wpList_append_bytes _ rfl (.tmp 101) (.tmp 102) 24 rfl Try.underlying24 Try.info5 _ _ ([] ++ X) rfl HA.out (· = g6) _ _ _ Y rfl YR.out.1 ny HYA.out (by rw [List.length_append]; have := HXL.out.1.1; have := HXL.out.2.1; show (0 + _) + _ ≤ _; omega) ?_)
    intro gb vb wb' hb hgb hob hnb
    clear hnb
    have hbb : Below w8.heap.size w8 wb' := below_only HBA.out HBA.out.size hob (by intro k hk e; omega)
    have hvb := V8.out.below hbb
    rw [P0.out.1] at hb
    obtain ⟨NB, hNB⟩ : ∃ NB, S0.length = NB := ⟨_, rfl⟩
    have hNBl : NB ≤ 400 := by rw [← hNB, ← P0.out.1]; exact P0.out.2
    obtain ⟨pb, cb, rfl, _, _, hRb, hNb, _⟩ := hb.form
    rw [hNB]
    have HRB := Lib.hid (And.intro hNB hRb)
    have HVB := Lib.hid hvb
    have HBB := Lib.hid hbb
    clear hRb hvb hbb hob hb hgb zga hNB HA HYA HBA XR1 YR1 HON
    have e0 : doneS [] 0 = 0 := by simp [doneS]
    have E0 := Lib.hid e0
    clear e0
    go_wp2_with (first
      | (go_at_call 9; refine (new_c (· = gb) _ NB cb S0 _ HRB.out.2 hNb (by rw [HRB.out.1]; omega) HRB.out.1).mono ?_; rintro e wc ⟨r, g, rfl, k1, k2, k3, k4, k5⟩)
      | (go_at_call 18; refine (bytes_c r g Y 0 (N : Int) _ i2 (by have := PL.out.2.1; omega)).mono ?_; rintro e wf ⟨g7', p7', c7', rfl, z7, o7, i3, o3⟩; rw [P3.out.1, P3.out.2] at i3)
      | (go_at_call 12; refine (uint_c r g BW 0 (W : Int) _ i1).mono ?_; rintro e we ⟨rfl, i2, o2⟩; rw [P2.out.1.1, P2.out.2.1, P2.out.2.2.2] at i2; rw [P2.out.1.1, P2.out.2.2.1, P2.out.1.2])
      | (go_at_call 18; refine (bytes_c r g S0 0 (N : Int) _ k4 (by rw [HRB.out.1]; omega)).mono ?_; rintro e wd ⟨g8, p8, c8, rfl, z8, o8, i1, o1⟩; rw [P1.out.1, P1.out.2] at i1))
    refine (vector_c r g BV 0 (W : Int) (T : Int) (T : Int) _ i3 (by have := PL.out.2.2; omega)).mono ?_
    rintro e wv ⟨g9, p9, c9, rfl, z9, o9, i4, o4⟩
    rw [P4.out] at o9 i4 ⊢
    have zb := HBB.out.size
    have v6 := (((((HVB.out.below k5).only o1 (fun k hk e => by omega)).only o2 (fun k hk e => by omega)).only o3 (fun k hk e => by omega)).only o4 (fun k hk e => by omega))
    have s5 : (convert 24 9 (.slice p9 T c9)).run Try.prog wv = .ok (.string ⟨vv.toArray⟩) wv := run_strO (by rw [← HLN.out.2]; exact o9) HLN.out.2
    have s6 := run_str (c := c3) v6 HLN.out.2
    rw [HLN.out.2]
    go_wp2_with (first
      | (go_at_call 14; refine (done_c r g [] 0 _ i4).mono ?_; rintro e wz ⟨rfl, rfl⟩; rw [E0.out]))
    go_ret
    have z8' := B8.out.size
    have zc := k5.size
    have zd := o1.size
    have ze := o2.size
    have zf := o3.size
    have a1 : Below w.heap.size w wb' := B8.out.trans (HBB.out.mono z8')
    have a2 : Below w.heap.size w wc := a1.trans (k5.mono (by omega))
    have a3 : Below w.heap.size w wd := below_only a2 (by omega) o1 (by intro k hk e; omega)
    have a4 : Below w.heap.size w we := below_only a3 (by omega) o2 (by intro k hk e; omega)
    have a5 : Below w.heap.size w wf := below_only a4 (by omega) o3 (by intro k hk e; omega)
    have a6 : Below w.heap.size w wv := below_only a5 (by omega) o4 (by intro k hk e; omega)
    exact ⟨rfl, a6⟩
  · have hno : (ok = false ∧ is = false) ∨ (ok = false ∧ is = true) ∨ (ok = true ∧ is = false) := by
      cases ok <;> cases is <;> simp at hboth ⊢
    rcases hno with ⟨rfl, rfl⟩ | ⟨rfl, rfl⟩ | ⟨rfl, rfl⟩
    all_goals
      go_wp2
      go_ret
      exact ⟨rfl, B8.out⟩
end Go.Proofs.Ytmmifenihjmmiaa
