/-
  What is read out of a State's bytes, whole, cut, or behind another version: plain lists. Conditions: those of each theorem.
-/
import Derived.Test.YtfilngbedlkhjaaSnPure
namespace Go.Proofs.Ytfilngbedlkhjaa
open Go.RowKit Go.Kx
set_option linter.unusedVariables false
set_option linter.unusedSimpArgs false

theorem sm_full (t : List UInt8) (sm : List UInt8) : ∀ k, 32 * k ≤ sm.length → smS k (sm ++ t, 0) = (sm.take (32 * k), (sm.drop (32 * k) ++ t, 0))
  | 0, _ => by simp [smS]
  | k + 1, h => by
    have ih := sm_full t sm k (by omega)
    have e : sm.drop (32 * k) ++ t = (sm.drop (32 * k)).take 32 ++ (sm.drop (32 * (k + 1)) ++ t) := by
      rw [← List.append_assoc]
      congr 1
      rw [show 32 * (k + 1) = 32 * k + 32 by omega, ← List.drop_drop, List.take_append_drop]
    have hl : ((sm.drop (32 * k)).take 32).length = 32 := by rw [List.length_take, List.length_drop]; omega
    obtain ⟨b1, b2⟩ := b_full ((sm.drop (32 * k)).take 32) (sm.drop (32 * (k + 1)) ++ t) 32 (by rw [hl]; rfl)
    simp only [smS, ih, e, b1, b2, hl, Nat.sub_self, List.replicate_zero, List.append_nil]
    congr 1
    rw [show 32 * (k + 1) = 32 * k + 32 by omega, List.take_add]
theorem sm_bad {x : RS} (h : x.2 ≠ 0) : ∀ k, (smS k x).2.2 = x.2
  | 0 => rfl
  | k + 1 => by have ih := sm_bad h k; simp only [smS]; rw [bS_bad (by rw [ih]; exact h), ih]
theorem Ct.sm {t s : List UInt8} {x : RS} (sm : List UInt8) (h : Ct t (sm ++ s) x) : ∀ k, 32 * k ≤ sm.length → Ct t (sm.drop (32 * k) ++ s) (smS k x).2
  | 0, _ => by simpa [smS] using h
  | k + 1, hk => by
    have ih := Ct.sm sm h k (by omega)
    have e : sm.drop (32 * k) ++ s = (sm.drop (32 * k)).take 32 ++ (sm.drop (32 * (k + 1)) ++ s) := by
      rw [← List.append_assoc]
      congr 1
      rw [show 32 * (k + 1) = 32 * k + 32 by omega, ← List.drop_drop, List.take_append_drop]
    have hl : ((sm.drop (32 * k)).take 32).length = 32 := by rw [List.length_take, List.length_drop]; omega
    rw [e] at ih
    exact (ih.take 32 (by rw [hl]; rfl)).1

/-- What a State must be that it can be put. -/
theorem okS.bd {s : St} (h : okS s) : s.ph.toNat < 256 ^ 1 ∧ s.a.toNat < 256 ^ 1 ∧ s.b.toNat < 256 ^ 1 ∧ s.c.toNat < 256 ^ 2 ∧ s.d.toNat < 256 ^ 2 ∧ s.lg.length < 256 ^ 2 ∧ s.pt.length < 256 ^ 2 ∧ s.us.length < 256 ^ 1 ∧ (s.al + 1).toNat < 256 ^ 2 := by
  obtain ⟨⟨a1, a2⟩, ⟨b1, b2⟩, ⟨c1, c2⟩, ⟨d1, d2⟩, ⟨e1, e2⟩, ⟨f1, f2⟩, g1, g2, g3⟩ := h
  simp only [Nat.reducePow]
  omega

/-- The body is read, whatever stands behind it. -/
theorem bd_full {s s' : St} {v ver sealed : Nat} {T : List UInt8} {y : RS} (hs : okS s) (hm : s.sm.length = 224) (hv : 1 ≤ v ∧ v ≤ 3) (h : Go1 (be v 1 ++ (bdB s ++ T)) ver s' sealed y) :
    ver = v ∧ sealed = (if s.sl then 1 else 0) ∧ ∃ x12 : RS, s' = { s with us := (if 2 ≤ v then vN (T, 0) 1 0 255 else []), al := (if 3 ≤ v then ((uN x12 2 : Nat) : Int) - 1 else -1) } ∧ x12 = (if 2 ≤ v then vS (T, 0) 1 0 255 else (T, 0)) ∧ y = (if 3 ≤ v then uS x12 2 else x12) := by
  obtain ⟨x1, x2, x3, x4, x5, x6, x7, x8, x9, x10, x11, x12, ⟨r1, e1⟩, e2, ⟨r3, e3⟩, ⟨r4, e4⟩, ⟨r5, e5⟩, ⟨r6, e6⟩, ⟨r7, e7⟩, ⟨r8, e8⟩, ⟨r9, e9⟩, ⟨r10, e10⟩, r11, ⟨r12, e12⟩, ⟨r13, e13⟩, r14, e14⟩ := h
  obtain ⟨k1, k2, k3, k4, k5, k6, k7, k8, k9⟩ := hs.bd
  obtain ⟨⟨a1, a2⟩, ⟨b1, b2⟩, ⟨c1, c2⟩, ⟨d1, d2⟩, ⟨f1, f2⟩, ⟨g1, g2⟩, m1, m2, m3⟩ := hs
  have w1 : (1 : Nat) ≤ 1 ∧ 1 ≤ 4 := by omega
  have w2 : (1 : Nat) ≤ 2 ∧ 2 ≤ 4 := by omega
  have q1 := u_full (n := v) w1 (by simp only [Nat.reducePow]; omega) (bdB s ++ T)
  rw [show ((1 : Nat) : Int) = 1 by rfl] at q1
  rw [q1.1] at r1
  rw [q1.2] at e1
  subst r1 e1
  rw [if_pos hv] at e2
  subst e2
  unfold bdB at r3 e3
  simp only [List.append_assoc] at r3 e3
  have q2 := u_full w1 k1 (be s.lg.length 2 ++ (s.lg ++ (s.sm ++ (be s.a.toNat 1 ++ (be s.b.toNat 1 ++ (be s.c.toNat 2 ++ (be s.d.toNat 2 ++ (be (if s.sl then 1 else 0) 1 ++ (be s.pt.length 2 ++ (s.pt ++ T))))))))))
  rw [show ((1 : Nat) : Int) = 1 by rfl] at q2
  rw [q2.1] at r3
  rw [q2.2] at e3
  subst e3
  have q3 := v_full (l := 0) (m := 20000) w2 k6 (by omega) (by omega) (s.sm ++ (be s.a.toNat 1 ++ (be s.b.toNat 1 ++ (be s.c.toNat 2 ++ (be s.d.toNat 2 ++ (be (if s.sl then 1 else 0) 1 ++ (be s.pt.length 2 ++ (s.pt ++ T))))))))
  rw [show ((2 : Nat) : Int) = 2 by rfl] at q3
  rw [q3.1] at r4
  rw [q3.2] at e4
  subst e4
  rw [sm_full _ s.sm 7 (by omega)] at r5 e5
  rw [List.take_of_length_le (by omega)] at r5
  rw [List.drop_of_length_le (by omega), List.nil_append] at e5
  subst e5
  have q4 := u_full w1 k2 (be s.b.toNat 1 ++ (be s.c.toNat 2 ++ (be s.d.toNat 2 ++ (be (if s.sl then 1 else 0) 1 ++ (be s.pt.length 2 ++ (s.pt ++ T))))))
  rw [show ((1 : Nat) : Int) = 1 by rfl] at q4
  rw [q4.1] at r6
  rw [q4.2] at e6
  subst e6
  have q5 := u_full w1 k3 (be s.c.toNat 2 ++ (be s.d.toNat 2 ++ (be (if s.sl then 1 else 0) 1 ++ (be s.pt.length 2 ++ (s.pt ++ T)))))
  rw [show ((1 : Nat) : Int) = 1 by rfl] at q5
  rw [q5.1] at r7
  rw [q5.2] at e7
  subst e7
  have q6 := u_full w2 k4 (be s.d.toNat 2 ++ (be (if s.sl then 1 else 0) 1 ++ (be s.pt.length 2 ++ (s.pt ++ T))))
  rw [show ((2 : Nat) : Int) = 2 by rfl] at q6
  rw [q6.1] at r8
  rw [q6.2] at e8
  subst e8
  have q7 := u_full w2 k5 (be (if s.sl then 1 else 0) 1 ++ (be s.pt.length 2 ++ (s.pt ++ T)))
  rw [show ((2 : Nat) : Int) = 2 by rfl] at q7
  rw [q7.1] at r9
  rw [q7.2] at e9
  subst e9
  have q8 := u_full (n := if s.sl then 1 else 0) w1 (by split <;> simp) (be s.pt.length 2 ++ (s.pt ++ T))
  rw [show ((1 : Nat) : Int) = 1 by rfl] at q8
  rw [q8.1] at r10
  rw [q8.2] at e10
  subst e10 r10
  have q9 := v_full (l := 0) (m := 4096) w2 k7 (by omega) (by omega) T
  rw [show ((2 : Nat) : Int) = 2 by rfl] at q9
  rw [q9.1] at r12
  rw [q9.2] at e12
  subst e12
  refine ⟨rfl, rfl, x12, ?_, e13, e14⟩
  obtain ⟨ph, lg, sm, a, b, c, d, sl, pt, us, al⟩ := s
  obtain ⟨ph', lg', sm', a', b', c', d', sl', pt', us', al'⟩ := s'
  simp only at *
  simp only [St.mk.injEq]
  refine ⟨by omega, r4, r5, by omega, by omega, by omega, by omega, ?_, r12, r13, r14⟩
  rw [r11]
  cases sl <;> simp

/-- What an older version has not is as at the start. -/
def upS (s : St) (v : Nat) : St := { s with us := (if 2 ≤ v then s.us else []), al := (if 3 ≤ v then s.al else -1) }
theorem upS_ok {s : St} (h : okS s) (v : Nat) : okS (upS s v) := by
  obtain ⟨a, b, c, d, e, f, g, h, i⟩ := h
  refine ⟨a, b, c, d, e, ?_, g, h, ?_⟩
  · show -1 ≤ (if 3 ≤ v then s.al else -1) ∧ (if 3 ≤ v then s.al else -1) ≤ 255
    split <;> omega
  · show (if 2 ≤ v then s.us else []).length ≤ 255
    split
    · exact i
    · simp

theorem get_full {s s' : St} {v ver sealed : Nat} {y : RS} (hs : okS s) (hm : s.sm.length = 224) (hv : 1 ≤ v ∧ v ≤ 3) (h : Go1 (snB s v) ver s' sealed y) :
    ver = v ∧ sealed ≤ 1 ∧ s' = upS s v ∧ y = ([], 0) := by
  obtain ⟨h1, h2, x12, h3, h4, h5⟩ := bd_full hs hm hv h
  obtain ⟨k1, k2, k3, k4, k5, k6, k7, k8, k9⟩ := hs.bd
  obtain ⟨-, -, -, -, -, ⟨g1, g2⟩, -, -, m3⟩ := hs
  have w1 : (1 : Nat) ≤ 1 ∧ 1 ≤ 4 := by omega
  have w2 : (1 : Nat) ≤ 2 ∧ 2 ≤ 4 := by omega
  have q := v_full (l := 0) (m := 255) w1 k8 (by omega) (by omega) (if 3 ≤ v then alB s else [])
  rw [show ((1 : Nat) : Int) = 1 by rfl] at q
  have qa := u_full w2 k9 []
  rw [show ((2 : Nat) : Int) = 2 by rfl, List.append_nil] at qa
  refine ⟨h1, by rw [h2]; split <;> omega, ?_⟩
  have hc : v = 1 ∨ v = 2 ∨ v = 3 := by omega
  rcases hc with rfl | rfl | rfl
  · simp only [Nat.reduceLeDiff, if_false, if_true, List.append_nil] at *
    subst h4 h5 h3
    exact ⟨by simp [upS], rfl⟩
  · simp only [Nat.reduceLeDiff, if_false, if_true, Nat.le_refl] at *
    unfold usB at h3 h4
    rw [List.append_assoc, q.1] at h3
    rw [List.append_assoc, q.2] at h4
    subst h4 h5 h3
    exact ⟨by simp [upS], rfl⟩
  · simp only [Nat.reduceLeDiff, if_false, if_true, Nat.le_refl] at *
    unfold usB at h3 h4
    rw [List.append_assoc, q.1] at h3
    rw [List.append_assoc, q.2] at h4
    subst h4
    unfold alB at h3 h5
    rw [qa.1] at h3
    rw [qa.2] at h5
    subst h5 h3
    refine ⟨?_, rfl⟩
    simp only [upS, Nat.reduceLeDiff, if_true, Nat.le_refl, St.mk.injEq, true_and, and_true]
    omega

/-- The first version's number ahead of the third one's bytes: some are left over. -/
theorem get_left {s s' : St} {ver sealed : Nat} {y : RS} (hs : okS s) (hm : s.sm.length = 224) (h : Go1 (be 1 1 ++ (bdB s ++ (usB s ++ alB s))) ver s' sealed y) : doneS y.1 y.2 = 3 := by
  obtain ⟨h1, h2, x12, h3, h4, h5⟩ := bd_full (v := 1) hs hm (by omega) h
  simp only [Nat.reduceLeDiff, if_false] at h4 h5
  subst h4 h5
  unfold doneS usB be
  simp [be]
/-- The third version's number ahead of the first one's bytes: they end too early. -/
theorem get_short {s s' : St} {ver sealed : Nat} {y : RS} (hs : okS s) (hm : s.sm.length = 224) (h : Go1 (be 3 1 ++ bdB s) ver s' sealed y) : doneS y.1 y.2 = 2 := by
  rw [← List.append_nil (bdB s)] at h
  obtain ⟨h1, h2, x12, h3, h4, h5⟩ := bd_full (v := 3) hs hm (by omega) h
  simp only [Nat.reduceLeDiff, if_true, Nat.le_refl] at h4 h5
  have e : vS ([], 0) 1 0 255 = ([], 2) := by decide
  rw [e] at h4
  subst h4
  have h6 := uS_bad (x := ([], 2)) (by decide) 2
  rw [← h5] at h6
  unfold doneS
  rw [h6, if_neg (by decide)]
/-- From an error on nothing mends it. -/
theorem go1_bad {L : List UInt8} {ver sealed : Nat} {s' : St} {y : RS} (e : Int) (he : e ≠ 0) (hx : (if 1 ≤ uN (L, 0) 1 ∧ uN (L, 0) 1 ≤ 3 then uS (L, 0) 1 else fS (uS (L, 0) 1)).2 = e) (h : Go1 L ver s' sealed y) : y.2 = e := by
  obtain ⟨x1, x2, x3, x4, x5, x6, x7, x8, x9, x10, x11, x12, ⟨r1, e1⟩, e2, ⟨r3, e3⟩, ⟨r4, e4⟩, ⟨r5, e5⟩, ⟨r6, e6⟩, ⟨r7, e7⟩, ⟨r8, e8⟩, ⟨r9, e9⟩, ⟨r10, e10⟩, r11, ⟨r12, e12⟩, ⟨r13, e13⟩, r14, e14⟩ := h
  have b2 : x2.2 = e := by rw [e2, e1, r1]; exact hx
  have b3 : x3.2 = e := by rw [e3, uS_bad (by rw [b2]; exact he), b2]
  have b4 : x4.2 = e := by rw [e4, vS_bad (by rw [b3]; exact he), b3]
  have b5 : x5.2 = e := by rw [e5, sm_bad (by rw [b4]; exact he), b4]
  have b6 : x6.2 = e := by rw [e6, uS_bad (by rw [b5]; exact he), b5]
  have b7 : x7.2 = e := by rw [e7, uS_bad (by rw [b6]; exact he), b6]
  have b8 : x8.2 = e := by rw [e8, uS_bad (by rw [b7]; exact he), b7]
  have b9 : x9.2 = e := by rw [e9, uS_bad (by rw [b8]; exact he), b8]
  have b10 : x10.2 = e := by rw [e10, uS_bad (by rw [b9]; exact he), b9]
  have b11 : x11.2 = e := by rw [e12, vS_bad (by rw [b10]; exact he), b10]
  have b12 : x12.2 = e := by
    rw [e13]
    split
    · rw [vS_bad (by rw [b11]; exact he), b11]
    · exact b11
  rw [e14]
  split
  · rw [uS_bad (by rw [b12]; exact he), b12]
  · exact b12
/-- A version that is none. -/
theorem get_four {L : List UInt8} {s' : St} {ver sealed : Nat} {y : RS} (h : Go1 (be 4 1 ++ L) ver s' sealed y) : doneS y.1 y.2 = 3 := by
  have q := u_full (n := 4) (W := 1) (by omega) (by decide) L
  rw [show ((1 : Nat) : Int) = 1 by rfl] at q
  have h6 : y.2 = 3 := by
    refine go1_bad 3 (by decide) ?_ h
    rw [q.1, q.2]
    rfl
  unfold doneS
  rw [h6, if_neg (by decide)]

/-- Of bytes of which the end is not there nothing is told. -/
theorem get_cut {s s' : St} {v k ver sealed : Nat} {y : RS} (hs : okS s) (hm : s.sm.length = 224) (hv : 1 ≤ v ∧ v ≤ 3) (hk : k < (snB s v).length) (h : Go1 ((snB s v).take k) ver s' sealed y) : doneS y.1 y.2 = 2 := by
  obtain ⟨t, ht⟩ : ∃ t, t = (snB s v).drop k := ⟨_, rfl⟩
  have htn : t ≠ [] := by intro e; have := congrArg List.length ht; rw [e, List.length_drop] at this; simp at this; omega
  have h0 : Ct t (snB s v) ((snB s v).take k, 0) := .inr ⟨rfl, by rw [ht]; exact List.take_append_drop _ _⟩
  clear ht hk
  generalize (snB s v).take k = L at *
  suffices H : y.2 = 2 by unfold doneS; rw [H, if_neg (by decide)]
  obtain ⟨k1, k2, k3, k4, k5, k6, k7, k8, k9⟩ := hs.bd
  obtain ⟨⟨a1, a2⟩, ⟨b1, b2⟩, ⟨c1, c2⟩, ⟨d1, d2⟩, ⟨f1, f2⟩, ⟨g1, g2⟩, m1, m2, m3⟩ := hs
  have w1 : (1 : Nat) ≤ 1 ∧ 1 ≤ 4 := by omega
  have w2 : (1 : Nat) ≤ 2 ∧ 2 ≤ 4 := by omega
  have q1 := h0.u (n := v) w1 (by simp only [Nat.reducePow]; omega)
  rw [show ((1 : Nat) : Int) = 1 by rfl] at q1
  by_cases hb : (uS (L, 0) 1).2 = 0
  · have hver := q1.2 hb
    obtain ⟨x1, x2, x3, x4, x5, x6, x7, x8, x9, x10, x11, x12, ⟨r1, e1⟩, e2, ⟨r3, e3⟩, ⟨r4, e4⟩, ⟨r5, e5⟩, ⟨r6, e6⟩, ⟨r7, e7⟩, ⟨r8, e8⟩, ⟨r9, e9⟩, ⟨r10, e10⟩, r11, ⟨r12, e12⟩, ⟨r13, e13⟩, r14, e14⟩ := h
    rw [hver] at r1
    subst r1
    rw [if_pos hv, e1] at e2
    have p2 := q1.1
    rw [← e2] at p2
    unfold bdB at p2
    simp only [List.append_assoc] at p2
    have p3 := (p2.u w1 k1).1
    rw [show ((1 : Nat) : Int) = 1 by rfl, ← e3] at p3
    have p4 := (p3.v (l := 0) (m := 20000) w2 k6 (by omega) (by omega)).1
    rw [show ((2 : Nat) : Int) = 2 by rfl, ← e4] at p4
    have p5 := p4.sm s.sm 7 (by omega)
    rw [← e5, List.drop_of_length_le (by omega), List.nil_append] at p5
    have p6 := (p5.u w1 k2).1
    rw [show ((1 : Nat) : Int) = 1 by rfl, ← e6] at p6
    have p7 := (p6.u w1 k3).1
    rw [show ((1 : Nat) : Int) = 1 by rfl, ← e7] at p7
    have p8 := (p7.u w2 k4).1
    rw [show ((2 : Nat) : Int) = 2 by rfl, ← e8] at p8
    have p9 := (p8.u w2 k5).1
    rw [show ((2 : Nat) : Int) = 2 by rfl, ← e9] at p9
    have p10 := (p9.u w1 (by split <;> simp)).1
    rw [show ((1 : Nat) : Int) = 1 by rfl, ← e10] at p10
    have p11 := (p10.v (l := 0) (m := 4096) w2 k7 (by omega) (by omega)).1
    rw [show ((2 : Nat) : Int) = 2 by rfl, ← e12] at p11
    have hc : ver = 1 ∨ ver = 2 ∨ ver = 3 := by omega
    rcases hc with rfl | rfl | rfl
    · simp only [Nat.reduceLeDiff, if_false, List.append_nil] at p11 e13 e14
      rw [e14, e13]
      exact p11.end htn
    · simp only [Nat.reduceLeDiff, if_false, if_true, Nat.le_refl, usB, List.append_assoc] at p11 e13 e14
      have p12 := (p11.v (l := 0) (m := 255) w1 k8 (by omega) (by omega)).1
      rw [show ((1 : Nat) : Int) = 1 by rfl, ← e13] at p12
      rw [e14]
      exact p12.end htn
    · simp only [Nat.reduceLeDiff, if_true, Nat.le_refl, usB, alB, List.append_assoc] at p11 e13 e14
      have p12 := (p11.v (l := 0) (m := 255) w1 k8 (by omega) (by omega)).1
      rw [show ((1 : Nat) : Int) = 1 by rfl, ← e13] at p12
      rw [← List.append_nil (be _ 2)] at p12
      have p13 := (p12.u w2 k9).1
      rw [show ((2 : Nat) : Int) = 2 by rfl, ← e14] at p13
      exact p13.end htn
  · have hb2 : (uS (L, 0) 1).2 = 2 := by
      rcases q1.1 with h2 | h2
      · exact h2
      · exact absurd h2.1 hb
    refine go1_bad 2 (by decide) ?_ h
    split
    · exact hb2
    · rw [fS_bad hb, hb2]
end Go.Proofs.Ytfilngbedlkhjaa
