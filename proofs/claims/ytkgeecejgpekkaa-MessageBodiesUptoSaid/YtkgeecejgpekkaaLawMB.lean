/-
  The walk of MessageBodies. Conditions: rows that together are no more than 2 to the 45th bytes.
-/
import Derived.Test.YtkgeecejgpekkaaBodF
import Derived.Test.YtkgeecejgpekkaaMsgB
import Derived.Test.YtkgeecejgpekkaaStr
namespace Go.Proofs.Ytkgeecejgpekkaa
open Go.RowKit Go.Kx
set_option linter.unusedVariables false
set_option linter.unusedSimpArgs false

/-- At the head of the loop over the rows. -/
def BRel (n : Nat) (w8 : World) (v21 : Value) (wr : World) : Prop := ∃ i : Nat, v21 = .int .i64 (i : Int) ∧ i ≤ n ∧ Below w8.heap.size w8 wr
theorem errN_zero {ok : Prop} [Decidable ok] (h : errN ok = 0) : ok := by
  unfold errN at h
  split at h
  · assumption
  · omega
theorem told_ok {ok : Prop} [Decidable ok] {X : List UInt8} (h : ok) : told ok X = X := if_pos h

set_option maxHeartbeats 8000000 in
set_option maxRecDepth 100000 in
theorem bodies_c (a : Option Addr) (n c : Nat) (l : List (List UInt8)) (li ad : Int) (p1 p2 : Option Addr) (n1 c1 n2 c2 : Nat) (no tk : List UInt8) (sc : Int) (w : World)
    (h : Ch w a n l) (ht : tot l ≤ 35184372088832) (hc : n ≤ c ∧ c ≤ maxLen)
    (R1 : Rd w (fun _ => True) p1 no) (l1 : no.length = n1) (z1 : p1 = none → c1 = 0) (R2 : Rd w (fun _ => True) p2 tk) (l2 : tk.length = n2) (z2 : p2 = none → c2 = 0) (hb : n1 + n2 ≤ 140737488355000) :
    Calls Try.prog 5 #[.slice a n c, .agg #[.int .i64 li, .int .i64 ad, .slice p1 n1 c1, .slice p2 n2 c2], .int .i64 sc] w (fun e w' => e = .returned (.bool true) ∧ Below w.heap.size w w') := by
  obtain ⟨W0, hW0⟩ : ∃ W0, W0 = w.alloc (.cells #[.int .i64 li, .int .i64 ad, .slice p1 n1 c1, .slice p2 n2 c2] 42) := ⟨_, rfl⟩
  have hbx : Box4 W0 w.heap.size 42 (.int .i64 li) (.int .i64 ad) (.slice p1 n1 c1) (.slice p2 n2 c2) := by rw [hW0]; exact Box4.new _ _ _ _ _ _
  have hB0 : Below w.heap.size w W0 := by rw [hW0]; exact (Below.refl _ _).alloc (Nat.le_refl _) _
  -- what stays
  have stay : ∀ wx, Below W0.heap.size W0 wx → Below w.heap.size w wx ∧ Ch wx a n l ∧ Rd wx (fun _ => True) p1 no ∧ Rd wx (fun _ => True) p2 tk ∧ Box4 wx w.heap.size 42 (.int .i64 li) (.int .i64 ad) (.slice p1 n1 c1) (.slice p2 n2 c2) := by
    intro wx hx
    have hwx : Below w.heap.size w wx := hB0.trans (hx.mono hB0.size)
    exact ⟨hwx, h.below hwx, R1.below hwx, R2.below hwx, hbx.below hx⟩
  have ST := Lib.hid stay
  have HE := Lib.hid (show w.alloc (.cells #[.int .i64 li, .int .i64 ad, .slice p1 n1 c1, .slice p2 n2 c2] 42) = W0 from hW0.symm)
  have HL := Lib.hid (And.intro l1 (And.intro z1 (And.intro l2 z2)))
  obtain ⟨AC, hAC⟩ : ∃ A, A = told (okC l) (chX l) := ⟨_, rfl⟩
  obtain ⟨AN, hAN⟩ : ∃ A, A = told (okN li ad no tk) (nwX li ad no tk) := ⟨_, rfl⟩
  obtain ⟨AY, hAY⟩ : ∃ A, A = told (okY sc tk) (vfX sc tk) := ⟨_, rfl⟩
  obtain ⟨EC, hEC⟩ : ∃ E, E = errN (okC l) := ⟨_, rfl⟩
  obtain ⟨EN, hEN⟩ : ∃ E, E = errN (okN li ad no tk) := ⟨_, rfl⟩
  obtain ⟨EY, hEY⟩ : ∃ E, E = errN (okY sc tk) := ⟨_, rfl⟩
  obtain ⟨BC, hBC⟩ : ∃ B, B = decide (okC l) := ⟨_, rfl⟩
  obtain ⟨BN, hBN⟩ : ∃ B, B = decide (okN li ad no tk) := ⟨_, rfl⟩
  obtain ⟨BY, hBY⟩ : ∃ B, B = decide (okY sc tk) := ⟨_, rfl⟩
  have eC : decide (EC = 0) = BC := by rw [hEC, hBC]; unfold errN; split <;> simp_all
  have eN : decide (EN = 0) = BN := by rw [hEN, hBN]; unfold errN; split <;> simp_all
  have eY : decide (EY = 0) = BY := by rw [hEY, hBY]; unfold errN; split <;> simp_all
  have P1 := Lib.hid (fun wx hx => putChain_u a n c l wx (stay wx hx).2.1 ht hc)
  have P2 := Lib.hid (fun wx hx => rputChain_u a n c l wx (stay wx hx).2.1 hc)
  have P3 := Lib.hid (fun wx hx => putNew_u li ad p1 p2 n1 c1 n2 c2 no tk wx (stay wx hx).2.2.1 l1 z1 (stay wx hx).2.2.2.1 l2 z2 hb)
  have P4 := Lib.hid (fun wx hx => rputNew_u li ad p1 p2 n1 c1 n2 c2 no tk wx (stay wx hx).2.2.1 l1 z1 (stay wx hx).2.2.2.1 l2 z2)
  have P5 := Lib.hid (fun wx hx => putVerify_u sc p2 n2 c2 tk wx (stay wx hx).2.2.2.1 l2 z2 (by omega))
  have P6 := Lib.hid (fun wx hx => rputVerify_u sc p2 n2 c2 tk wx (stay wx hx).2.2.2.1 l2 z2)
  rw [← hAC, ← hEC] at P1
  rw [← hAC, ← hBC] at P2
  rw [← hAN, ← hEN] at P3
  rw [← hAN, ← hBN] at P4
  rw [← hAY, ← hEY] at P5
  rw [← hAY, ← hBY] at P6
  have HA := Lib.hid (And.intro (And.intro hAC (And.intro hAN hAY)) (And.intro (And.intro hEC (And.intro hEN hEY)) (And.intro hBC (And.intro hBN hBY))))
  have hlt : w.heap.size < W0.heap.size := hbx.lt
  have EB := Lib.hid (And.intro eC (And.intro eN eY))
  have hnm : n ≤ 9223372036854775807 := by have h1 := hc.1; have h2 := hc.2; unfold maxLen at h2; omega
  clear stay hW0 hbx hB0 h ht hc R1 R2 l1 z1 l2 z2 hb hAC hAN hAY hEC hEN hEY hBC hBN hBY eC eN eY
  go_enter Try.func5, Try.ntmps5
  go_upto_region 1 with (fail)
  rw [HE.out]
  go_wp2_with fail
  refine (P1.out W0 (Below.refl _ _)).mono ?_
  rintro e w1 ⟨q1, m1, k1, rfl, a1, a2, a3, a4⟩
  have F1 := Lib.hid (And.intro a1 (And.intro a2 (And.intro a3 a4)))
  clear a1 a2 a3 a4
  go_wp2_with fail
  refine (P2.out w1 F1.out.2.2.2).mono ?_
  rintro e w2 ⟨q2, m2, k2, rfl, a1, a2, a3, a4⟩
  have F2 := Lib.hid (And.intro a1 (And.intro a2 (And.intro a3 (F1.out.2.2.2.trans (a4.mono F1.out.2.2.2.size)))))
  have G1 := Lib.hid (F1.out.2.1.below a4)
  clear a1 a2 a3 a4
  obtain ⟨t0, t1, t2, t3⟩ := (ST.out w2 F2.out.2.2.2).2.2.2.2.c
  go_wp2_with fail
  refine (P3.out w2 F2.out.2.2.2).mono ?_
  rintro e w3 ⟨q3, m3, k3, rfl, a1, a2, a3, a4⟩
  have F3 := Lib.hid (And.intro a1 (And.intro a2 (And.intro a3 (F2.out.2.2.2.trans (a4.mono F2.out.2.2.2.size)))))
  have G2 := Lib.hid (And.intro (G1.out.below a4) (F2.out.2.1.below a4))
  clear a1 a2 a3 a4 t0 t1 t2 t3
  obtain ⟨t0, t1, t2, t3⟩ := (ST.out w3 F3.out.2.2.2).2.2.2.2.c
  go_wp2_with fail
  refine (P4.out w3 F3.out.2.2.2).mono ?_
  rintro e w4 ⟨q4, m4, k4, rfl, a1, a2, a3, a4⟩
  have F4 := Lib.hid (And.intro a1 (And.intro a2 (And.intro a3 (F3.out.2.2.2.trans (a4.mono F3.out.2.2.2.size)))))
  have G3 := Lib.hid (And.intro (G2.out.1.below a4) (And.intro (G2.out.2.below a4) (F3.out.2.1.below a4)))
  clear a1 a2 a3 a4 t0 t1 t2 t3
  obtain ⟨t0, t1, t2, t3⟩ := (ST.out w4 F4.out.2.2.2).2.2.2.2.c
  go_wp2_with fail
  refine (P5.out w4 F4.out.2.2.2).mono ?_
  rintro e w5 ⟨q5, m5, k5, rfl, a1, a2, a3, a4⟩
  have F5 := Lib.hid (And.intro a1 (And.intro a2 (And.intro a3 (F4.out.2.2.2.trans (a4.mono F4.out.2.2.2.size)))))
  have G4 := Lib.hid (And.intro (G3.out.1.below a4) (And.intro (G3.out.2.1.below a4) (And.intro (G3.out.2.2.below a4) (F4.out.2.1.below a4))))
  clear a1 a2 a3 a4 t0 t1 t2 t3
  obtain ⟨t0, t1, t2, t3⟩ := (ST.out w5 F5.out.2.2.2).2.2.2.2.c
  go_wp2_with fail
  refine (P6.out w5 F5.out.2.2.2).mono ?_
  rintro e w6 ⟨q6, m6, k6, rfl, a1, a2, a3, a4⟩
  have F6 := Lib.hid (And.intro a1 (And.intro a2 (And.intro a3 (F5.out.2.2.2.trans (a4.mono F5.out.2.2.2.size)))))
  have G5 := Lib.hid (And.intro (G4.out.1.below a4) (And.intro (G4.out.2.1.below a4) (And.intro (G4.out.2.2.1.below a4) (And.intro (G4.out.2.2.2.below a4) (F5.out.2.1.below a4)))))
  clear a1 a2 a3 a4 t0 t1 t2 t3
  go_wp2_with fail
  refine (mputs_c w6).mono ?_
  rintro e w7 ⟨rfl, a4⟩
  have s1 := run_str (c := k1) (G5.out.1.below a4) F1.out.1
  have s2 := run_str (c := k2) (G5.out.2.1.below a4) F2.out.1
  have s3 := run_str (c := k3) (G5.out.2.2.1.below a4) F3.out.1
  have s4 := run_str (c := k4) (G5.out.2.2.2.1.below a4) F4.out.1
  have s5 := run_str (c := k5) (G5.out.2.2.2.2.below a4) F5.out.1
  have s6 := run_str (c := k6) (F6.out.2.1.below a4) F6.out.1
  have F7 := Lib.hid (F6.out.2.2.2.trans (a4.mono F6.out.2.2.2.size))
  have G7 := Lib.hid (And.intro (G5.out.1.below a4) (And.intro (G5.out.2.2.1.below a4) (G5.out.2.2.2.2.below a4)))
  obtain ⟨eC, eN, eY⟩ := EB.out
  clear a4
  go_upto_if 111 with (fail)
  go_cut [19] (fun v19 wx => Below w7.heap.size w7 wx)
  case first =>
    by_cases h0 : EC = 0
    · obtain rfl : BC = true := by rw [← eC]; exact decide_eq_true h0
      subst h0
      have hok : okC l := errN_zero HA.out.2.1.1.symm
      have hA : AC = chX l := by rw [HA.out.1.1]; exact told_ok hok
      have HK := Lib.hid (And.intro hok hA)
      have hn : l.length = n := (ST.out w7 F7.out).2.1.1
      clear hok hA s1 s2 s3 s4 s5 s6
      go_wp2_with fail
      refine (getChain_c (fun _ => True) q1 m1 k1 l w7 HK.out.1 (by rw [← HK.out.2]; exact G7.out.1) F1.out.2.2.1 (by rw [← HK.out.2]; exact F1.out.1)).mono ?_
      rintro e w8 ⟨a8, n8, c8, rfl, b1, b2⟩
      obtain rfl : n8 = n := b1.1.symm.trans hn
      have H8 := Lib.hid (And.intro b1 b2)
      clear b1 b2
      go_wp2_with fail
      go_loopw [21] (fun v21 wr => BRel n8 w8 v21 wr) (fun v21 _ => n8 - (intOf v21).toNat)
      case atStart => exact ⟨0, rfl, Nat.zero_le _, Below.refl _ _⟩
      case round =>
        obtain ⟨i, rfl, hi, hB⟩ := hrel
        have HB := Lib.hid hB
        clear hB
        by_cases hlt : i < n8
        · have hlI : (i : Int) < (n8 : Int) := by omega
          have hil : i < l.length := by omega
          obtain ⟨b, o, q, m, k, rfl, d1, r1, e1, z1⟩ := (H8.out.1.below HB.out).2 i hil
          obtain ⟨b', o', q', m', k', ha', d2, r2, e2, z2⟩ := ((ST.out w7 F7.out).2.1.below (H8.out.2.trans (HB.out.mono H8.out.2.size))).2 i hil
          have hi0 : (0 : Int) ≤ (i : Int) := by omega
          subst ha'
          have u1 := run_str (c := k) r1 e1
          have u2 := run_str (c := k') r2 e2
          have u3 := run_str (c := k) (r1.below ((Below.refl _ _).drew)) e1
          have u4 := run_str (c := k') (r2.below ((Below.refl _ _).drew)) e2
          have HQ := Lib.hid (And.intro r1 (And.intro e1 (And.intro z1 (And.intro r2 (And.intro e2 z2)))))
          clear r1 e1 z1 r2 e2 z2
          go_upto_region 16 with (fail)
          go_region_held3 (fun w' => w'.cell? ⟨b, o + i, none⟩ = some (.slice q m k) ∧ w'.cell? ⟨b', o' + i, none⟩ = some (.slice q' m' k') ∧ (convert 23 9 (.slice q m k)).run Try.prog w' = .ok (.string ⟨(l[i]'hil).toArray⟩) w' ∧ (convert 23 9 (.slice q' m' k')).run Try.prog w' = .ok (.string ⟨(l[i]'hil).toArray⟩) w') (exact ⟨d1, d2, u3, u4⟩) (fail)
          all_goals go_wp2
          exact ⟨⟨i + 1, by simp, by omega, HB.out.drew⟩, by simp [intOf]; omega⟩
        · have hlI : ¬ (i : Int) < (n8 : Int) := by omega
          go_wp2
          go_meet
          exact H8.out.2.trans (HB.out.mono H8.out.2.size)
    · obtain rfl : BC = false := by rw [← eC]; exact decide_eq_false h0
      go_wp2
      go_meet
      exact Below.refl _ _
  case rest =>
    have F8 := Lib.hid (F7.out.trans (hcut.mono F7.out.size))
    have G8 := Lib.hid (And.intro (G7.out.2.1.below hcut) (G7.out.2.2.below hcut))
    clear hcut s1 s2 s3 s4 s5 s6
    go_upto_if 144 with (fail)
    go_cut [23] (fun v23 wx => Below wc.heap.size wc wx)
    case first =>
      by_cases h0 : EN = 0
      · obtain rfl : BN = true := by rw [← eN]; exact decide_eq_true h0
        subst h0
        have hok : okN li ad no tk := errN_zero HA.out.2.1.2.1.symm
        have hA : AN = nwX li ad no tk := by rw [HA.out.1.2.1]; exact told_ok hok
        have HK := Lib.hid (And.intro hok hA)
        clear hok hA
        go_wp2_with fail
        refine (getNew_c (fun _ => True) q3 m3 k3 li ad no tk wc HK.out.1 (by rw [← HK.out.2]; exact G8.out.1) F3.out.2.2.1 (by rw [← HK.out.2]; exact F3.out.1)).mono ?_
        rintro e w8 ⟨q, m, k, q', m', k', rfl, e1, e2, r1, r2, z1, z2, b2⟩
        have HN := Lib.hid (And.intro e1 (And.intro e2 (And.intro r1 (And.intro r2 (And.intro z1 (And.intro z2 b2))))))
        clear e1 e2 r1 r2 z1 z2 b2
        have b9 : Below w8.heap.size w8 (w8.alloc (.cells #[.int .i64 li, .int .i64 ad, .slice q m k, .slice q' m' k'] 46)) := (Below.refl _ _).alloc (Nat.le_refl _) _
        have b8 := F8.out.trans (HN.out.2.2.2.2.2.2.mono F8.out.size)
        obtain ⟨-, -, x1, x2, x3⟩ := ST.out _ (b8.trans (b9.mono b8.size))
        obtain ⟨t0, t1, t2, t3⟩ := x3.c
        obtain ⟨d0, d1, d2, d3⟩ := fr4 w8 46 (.int .i64 li) (.int .i64 ad) (.slice q m k) (.slice q' m' k')
        have u1 := run_str (c := k) (HN.out.2.2.1.below b9) HN.out.1
        have u2 := run_str (c := k') (HN.out.2.2.2.1.below b9) HN.out.2.1
        have u3 := run_str (c := c1) x1 HL.out.1
        have u4 := run_str (c := c2) x2 HL.out.2.2.1
        have b98 := HN.out.2.2.2.2.2.2.alloc HN.out.2.2.2.2.2.2.size (.cells #[.int .i64 li, .int .i64 ad, .slice q m k, .slice q' m' k'] 46)
        have HB9 := Lib.hid b98
        clear x1 x2 x3 b8 b9 b98
        go_wp2
        go_meet
        exact HB9.out
      · obtain rfl : BN = false := by rw [← eN]; exact decide_eq_false h0
        go_wp2
        go_meet
        exact Below.refl _ _
    case rest =>
      have F9 := Lib.hid (F8.out.trans (hcut.mono F8.out.size))
      have G9 := Lib.hid (G8.out.2.below hcut)
      clear hcut
      go_upto_if 185 with (fail)
      go_cut [24] (fun v24 wx => Below wc.heap.size wc wx)
      case first =>
        by_cases h0 : EY = 0
        · obtain rfl : BY = true := by rw [← eY]; exact decide_eq_true h0
          subst h0
          have hok : okY sc tk := errN_zero HA.out.2.1.2.2.symm
          have hA : AY = vfX sc tk := by rw [HA.out.1.2.2]; exact told_ok hok
          have HK := Lib.hid (And.intro hok hA)
          clear hok hA
          go_wp2_with fail
          refine (getVerify_c (fun _ => True) q5 m5 k5 sc tk wc HK.out.1 (by rw [← HK.out.2]; exact G9.out) F5.out.2.2.1 (by rw [← HK.out.2]; exact F5.out.1)).mono ?_
          rintro e w8 ⟨q, m, k, rfl, e1, r1, z1, b2⟩
          obtain ⟨-, -, x1, x2, x3⟩ := ST.out _ (F9.out.trans (b2.mono F9.out.size))
          obtain ⟨t0, t1, t2, t3⟩ := x3.c
          have u1 := run_str (c := k) r1 e1
          have u4 := run_str (c := c2) x2 HL.out.2.2.1
          have HB9 := Lib.hid b2
          clear x1 x2 x3 e1 r1 z1 b2
          go_wp2
          go_meet
          exact HB9.out
        · obtain rfl : BY = false := by rw [← eY]; exact decide_eq_false h0
          go_wp2
          go_meet
          exact Below.refl _ _
      case rest =>
        have F10 := Lib.hid ((ST.out _ (F9.out.trans (hcut.mono F9.out.size))).1)
        clear hcut
        have c1 : EC = 0 ∨ EC = 1 := by rw [HA.out.2.1.1]; unfold errN; split <;> simp
        have c2 : EN = 0 ∨ EN = 1 := by rw [HA.out.2.1.2.1]; unfold errN; split <;> simp
        have c3 : EY = 0 ∨ EY = 1 := by rw [HA.out.2.1.2.2]; unfold errN; split <;> simp
        clear eC eN eY
        rcases c1 with rfl | rfl <;> rcases c2 with rfl | rfl <;> rcases c3 with rfl | rfl
        all_goals go_wp2
        all_goals go_ret
        all_goals exact ⟨rfl, F10.out⟩
end Go.Proofs.Ytkgeecejgpekkaa
