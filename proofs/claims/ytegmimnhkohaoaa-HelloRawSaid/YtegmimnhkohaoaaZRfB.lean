/-
  The contracts of relayref07's Reader: Bytes (all cases), Uint, Vector, Left, Done. Conditions: at most 2 to the 47th bytes.
-/
import Derived.Test.YtegmimnhkohaoaaZRfA
namespace Go.Proofs.Ytegmimnhkohaoaa
open Go.RowKit Go.Kx
set_option linter.unusedVariables false
set_option linter.unusedSimpArgs false

theorem rbytes_c (r g : Nat) (L s : List UInt8) (bad n : Int) (w : World) (hr : Rf w r g L s bad) (hl : L.length ≤ 140737488355328) :
    Calls Try.prog 59 #[rp r, .int .i64 n] w (RToldR w r g L (outS s bad n) (leftS s bad n) (badS s bad n)) := by
  by_cases h : badS s bad n = 0
  · have hbad : bad = 0 := by
      by_cases hb : bad = 0
      · exact hb
      · exact absurd h (badS_ne hb)
    subst hbad
    have hn : ¬ n < 0 := by intro hn; unfold badS rm at h; rw [if_pos hn, if_pos rfl] at h; exact absurd h (by decide)
    have hn2 : ¬ (s.length : Int) < n := by intro hl2; unfold badS rm at h; rw [if_neg hn, if_pos hl2, if_pos rfl] at h; exact absurd h (by decide)
    obtain ⟨m, rfl⟩ : ∃ m : Nat, n = m := ⟨n.toNat, by omega⟩
    have h1 : outS s 0 (m : Int) = s.take m := by unfold outS; rw [if_pos h]; simp
    have h2 : leftS s 0 (m : Int) = s.drop m := by unfold leftS; rw [if_pos h]; simp
    rw [h1, h2, h]
    exact rbytes_yes r g m L s w hr hl (by omega)
  · exact rbytes_no r g L s bad n w hr h

theorem rleft_c (r g : Nat) (L s : List UInt8) (bad : Int) (w : World) (hr : Rf w r g L s bad) :
    Calls Try.prog 103 #[rp r] w fun e w' => e = .returned (.int .i64 (s.length : Int)) ∧ Only (fun _ => False) w w' := by
  obtain ⟨hne, hlt, p, m, c, a, e1, e2, e3, hb, hR, e4, e5, e6, e7⟩ := id hr
  have hsl : (s.length : Int) = (m : Int) - (a : Int) := by rw [← e3, List.length_drop]; omega
  have c0 := hb.c0
  have c1 := hb.c1
  unfold maxLen at e5
  have i1 : IntKind.i64.wrap ((m : Int) - (a : Int)) = (m : Int) - (a : Int) := IntWalk.i64_in _ ⟨by omega, by omega⟩
  clear hr hb hR e6 e7
  go_enter Try.func103, Try.ntmps103
  go_wp2
  go_quiet (fail)
  go_wp2
  go_ret
  rw [hsl]
  exact ⟨rfl, Only.drewN _ (Only.refl _ _)⟩

theorem rdone_c (r g : Nat) (L s : List UInt8) (bad : Int) (w : World) (hr : Rf w r g L s bad) :
    Calls Try.prog 63 #[rp r] w fun e w' => e = .returned (.int .i64 (doneS s bad)) ∧ Only (fun _ => False) w w' := by
  obtain ⟨hne, hlt, p, m, c, a, e1, e2, e3, hb, hR, e4, e5, e6, e7⟩ := id hr
  have c2 := hb.c2
  by_cases h : bad = 0
  · subst h
    by_cases hs : s = []
    · subst hs
      go_enter Try.func63, Try.ntmps63
      go_wp2_with (go_at_call 103; refine (rleft_c r g L [] 0 _ hr).mono ?_; rintro e w' ⟨rfl, ho⟩)
      go_ret
      exact ⟨by simp [doneS], ho⟩
    · have h0 : 0 < s.length := List.length_pos_iff.2 hs
      have hd : doneS s 0 = 3 := by simp [doneS, hs]
      go_enter Try.func63, Try.ntmps63
      go_wp2_with (go_at_call 103; refine (rleft_c r g L s 0 _ hr).mono ?_; rintro e w' ⟨rfl, ho⟩)
      go_ret
      rw [hd]
      exact ⟨rfl, ho⟩
  · have hi : (bad != 0) = true := by simpa using h
    go_enter Try.func63, Try.ntmps63
    go_wp2
    go_ret
    exact ⟨by simp [doneS, h], Only.refl _ _⟩

/-- One round of the document's Uint. -/
def RURel (wa : World) (l : List UInt8) (v6 v7 : Value) (wr : World) : Prop := ∃ i : Nat, v7 = .int .i64 (i : Int) ∧ v6 = .int .i64 (beN (l.take i) : Nat) ∧ i ≤ l.length ∧ ∃ k, wr = wa.drewN k

def RUintR (w : World) (r g : Nat) (L s : List UInt8) (bad width : Int) (e : Ending) (w' : World) : Prop :=
  e = .returned (.int .i64 (beN (outS s (wb bad width) width) : Nat)) ∧ Rf w' r g L (leftS s (wb bad width) width) (badS s (wb bad width) width) ∧ Only (· = r) w w'

set_option maxHeartbeats 1000000 in
theorem rfuint_c (r g : Nat) (L s : List UInt8) (bad width : Int) (w : World) (hr : Rf w r g L s bad) (hl : L.length ≤ 140737488355328) :
    Calls Try.prog 57 #[rp r, .int .i64 width] w (RUintR w r g L s bad width) := by
  have hX : ∃ b1, b1 = wb bad width := ⟨_, rfl⟩
  obtain ⟨b1, hb1⟩ := hX
  have h4 := out_four s bad width
  unfold RUintR
  rw [← hb1] at h4 ⊢
  obtain ⟨hne, hlt, p, m, c, a, e1, e2, e3, hb, hR, e4, e5, e6, e7⟩ := id hr
  have c2 := hb.c2
  have f2 := hb.fr 2
  clear hb hR e1 e2 e3 e4 e5 e6 e7
  obtain ⟨l, hL⟩ : ∃ l, l = outS s b1 width := ⟨_, rfl⟩
  rw [← hL] at h4 ⊢
  have HLL := Lib.hid hL
  have HB1 := Lib.hid hb1
  have HR := Lib.hid hr
  clear hL hb1 hr
  go_enter Try.func57, Try.ntmps57
  go_upto_region 1 with (fail)
  go_cut [20] (fun v20 wx => v20 = .bool (decide (bad = 0 ∧ ¬ (1 ≤ width ∧ width ≤ 4))) ∧ w = wx)
  case first =>
    by_cases hbad : bad = 0
    · subst hbad
      by_cases h1 : width < 1
      · go_wp2
        all_goals go_meet
        all_goals exact ⟨congrArg Value.bool (by simp; omega), rfl⟩
      · by_cases h2 : 4 < width
        · go_wp2
          all_goals go_meet
          all_goals exact ⟨congrArg Value.bool (by simp; omega), rfl⟩
        · go_wp2
          all_goals go_meet
          all_goals exact ⟨congrArg Value.bool (by simp; omega), rfl⟩
    · have hi : (bad == 0) = false := by simpa using hbad
      go_wp2
      all_goals go_meet
      all_goals exact ⟨congrArg Value.bool (by simp [hbad]), rfl⟩
  case rest =>
  obtain ⟨rfl, rfl⟩ := hcut
  by_cases hq : bad = 0 ∧ ¬ (1 ≤ width ∧ width ≤ 4)
  · rw [decide_eq_true hq]
    have hfin : Rf (w.setCell ⟨r, 2, none⟩ (.int .i64 3)) r g L s b1 := by
      have : b1 = 3 := by rw [HB1.out]; unfold wb rm; rw [if_neg hq.2, if_pos hq.1]
      rw [this]
      exact HR.out.fail 3
    have HF := Lib.hid hfin
    clear hfin hq
    have HO1 := Lib.hid ((Only.refl (fun k => k = r) w).setCell ⟨r, 2, none⟩ (.int .i64 3) (.inl rfl))
    go_wp2_with (go_at_call 59; refine (rbytes_c r g L s b1 width _ HF.out hl).mono ?_; rintro e w' ⟨g', p, c', rfl, k1, k2, k3, k4⟩)
    rw [← HLL.out] at k2 ⊢
    have hRl := k2.rd
    have HK3 := Lib.hid k3
    have HK4 := Lib.hid k4
    clear k1 k2 k3 k4
    go_loopw [6, 7] (fun v6 v7 wr => RURel w' l v6 v7 wr) (fun _ v7 _ => l.length - (intOf v7).toNat)
    case atStart => exact ⟨0, rfl, rfl, by omega, 0, rfl⟩
    case round =>
      obtain ⟨i, rfl, rfl, hi, k, rfl⟩ := hrel
      have hbl := beN_small (l.take i) (by rw [List.length_take]; omega)
      by_cases hlt : i < l.length
      · obtain ⟨b, o, rfl, rfl, _, hat⟩ := hRl.at (by omega)
        have d0 := hat i hlt
        clear hat
        generalize hxe : l[i] = x at d0
        have hx := x.toNat_lt
        have HX := Lib.hid hxe
        clear hxe
        generalize hm : beN (l.take i) = m at *
        have HM := Lib.hid hm
        clear hm
        go_wp2
        refine ⟨⟨i + 1, by simp, ?_, by omega, by first | exact ⟨k, rfl⟩ | exact ⟨k + 1, rfl⟩ | exact ⟨_, rfl⟩⟩, by simp [intOf]; omega⟩
        rw [List.take_succ_eq_append_getElem hlt, beN_snoc, HM.out, HX.out]
        simp
      · have hil : i = l.length := by omega
        subst hil
        rw [List.take_length] at hbl ⊢
        go_wp2
        go_ret
        exact ⟨rfl, HK3.out.only (Only.drewN _ (Only.refl (fun _ => False) _)) (fun h => h) (fun h => h), Only.drewN _ (HO1.out.then HK4.out)⟩
  · rw [decide_eq_false hq]
    have hfin : Rf w r g L s b1 := by
      have : b1 = bad := by
        rw [HB1.out]
        unfold wb rm
        split
        · rfl
        · rename_i h
          rw [if_neg (fun e => hq ⟨e, h⟩)]
      rw [this]
      exact HR.out
    have HF := Lib.hid hfin
    clear hfin hq
    have HO1 := Lib.hid (Only.refl (fun k => k = r) w)
    go_wp2_with (go_at_call 59; refine (rbytes_c r g L s b1 width _ HF.out hl).mono ?_; rintro e w' ⟨g', p, c', rfl, k1, k2, k3, k4⟩)
    rw [← HLL.out] at k2 ⊢
    have hRl := k2.rd
    have HK3 := Lib.hid k3
    have HK4 := Lib.hid k4
    clear k1 k2 k3 k4
    go_loopw [6, 7] (fun v6 v7 wr => RURel w' l v6 v7 wr) (fun _ v7 _ => l.length - (intOf v7).toNat)
    case atStart => exact ⟨0, rfl, rfl, by omega, 0, rfl⟩
    case round =>
      obtain ⟨i, rfl, rfl, hi, k, rfl⟩ := hrel
      have hbl := beN_small (l.take i) (by rw [List.length_take]; omega)
      by_cases hlt : i < l.length
      · obtain ⟨b, o, rfl, rfl, _, hat⟩ := hRl.at (by omega)
        have d0 := hat i hlt
        clear hat
        generalize hxe : l[i] = x at d0
        have hx := x.toNat_lt
        have HX := Lib.hid hxe
        clear hxe
        generalize hm : beN (l.take i) = m at *
        have HM := Lib.hid hm
        clear hm
        go_wp2
        refine ⟨⟨i + 1, by simp, ?_, by omega, by first | exact ⟨k, rfl⟩ | exact ⟨k + 1, rfl⟩ | exact ⟨_, rfl⟩⟩, by simp [intOf]; omega⟩
        rw [List.take_succ_eq_append_getElem hlt, beN_snoc, HM.out, HX.out]
        simp
      · have hil : i = l.length := by omega
        subst hil
        rw [List.take_length] at hbl ⊢
        go_wp2
        go_ret
        exact ⟨rfl, HK3.out.only (Only.drewN _ (Only.refl (fun _ => False) _)) (fun h => h) (fun h => h), Only.drewN _ (HO1.out.then HK4.out)⟩

theorem rvector_c (r g : Nat) (L s : List UInt8) (bad width least most : Int) (w : World) (hr : Rf w r g L s bad) (hl : L.length ≤ 140737488355328) :
    Calls Try.prog 60 #[rp r, .int .i64 width, .int .i64 least, .int .i64 most] w (RToldR w r g L (vecS s bad width least most).1 (vecS s bad width least most).2.1 (vecS s bad width least most).2.2) := by
  obtain ⟨out, hout⟩ : ∃ out, out = outS s (wb bad width) width := ⟨_, rfl⟩
  obtain ⟨s1, hs1⟩ : ∃ s1, s1 = leftS s (wb bad width) width := ⟨_, rfl⟩
  obtain ⟨b1, hb1⟩ : ∃ b1, b1 = badS s (wb bad width) width := ⟨_, rfl⟩
  obtain ⟨n, hn⟩ : ∃ n, n = beN out := ⟨_, rfl⟩
  have hvec : vecS s bad width least most = if badS s1 b1 (n : Int) = 0 ∧ ((n : Int) < least ∨ most < (n : Int)) then ([], leftS s1 b1 (n : Int), 3) else (outS s1 b1 (n : Int), leftS s1 b1 (n : Int), badS s1 b1 (n : Int)) := by
    unfold vecS; rw [hn, hout, hs1, hb1]
  have HV := Lib.hid hvec
  have HR := Lib.hid hr
  have HU : ∀ wx, Rf wx r g L s bad → Calls Try.prog 57 #[rp r, .int .i64 width] wx (fun e w' => e = .returned (.int .i64 (n : Int)) ∧ Rf w' r g L s1 b1 ∧ Only (· = r) wx w') := by
    intro wx h
    refine (rfuint_c r g L s bad width wx h hl).mono ?_
    rintro e w' ⟨h1, h2, h3⟩
    rw [hn, hout, hs1, hb1]
    exact ⟨h1, h2, h3⟩
  clear hvec hr hn hout hs1 hb1
  obtain ⟨b2, hb2⟩ : ∃ b2, b2 = badS s1 b1 (n : Int) := ⟨_, rfl⟩
  have HB2 := Lib.hid hb2
  by_cases hok : b2 = 0
  · by_cases hlm : (n : Int) < least ∨ most < (n : Int)
    · have hv : vecS s bad width least most = ([], leftS s1 b1 (n : Int), 3) := by rw [HV.out, ← HB2.out, if_pos ⟨hok, hlm⟩]
      have HV2 := Lib.hid hv
      clear hv hb2
      subst hok
      go_enter Try.func60, Try.ntmps60
      go_wp2_with (first
        | (go_at_call 57; refine (HU _ HR.out).mono ?_; rintro e wu ⟨rfl, hcu, hou⟩)
        | (go_at_call 59; refine (rbytes_c r g L s1 b1 (n : Int) _ hcu hl).mono ?_; rintro e w' ⟨g', p, c, rfl, h1, h2, hc, ho⟩; rw [← HB2.out] at hc; have hbx := hc.ex; obtain ⟨_, _, _, _, _, _, _, hb3, _⟩ := hbx; have d2 := hb3.c2; have f2 := hb3.fr 2))
      all_goals go_ret
      all_goals (rw [HV2.out]; exact ⟨_, none, 0, rfl, Nat.le_trans hou.size (Nat.le_trans ho.size (Nat.le_refl _)), Own.nil _ _, hc.fail 3, (hou.then ho).setCell ⟨r, 2, none⟩ _ (.inl rfl)⟩)
    · have hv : vecS s bad width least most = (outS s1 b1 (n : Int), leftS s1 b1 (n : Int), badS s1 b1 (n : Int)) := by rw [HV.out, if_neg (fun h => hlm h.2)]
      have HV2 := Lib.hid hv
      clear hv hb2
      have hl1 : ¬ (n : Int) < least := by omega
      have hl2 : ¬ most < (n : Int) := by omega
      subst hok
      go_enter Try.func60, Try.ntmps60
      go_wp2_with (first
        | (go_at_call 57; refine (HU _ HR.out).mono ?_; rintro e wu ⟨rfl, hcu, hou⟩)
        | (go_at_call 59; refine (rbytes_c r g L s1 b1 (n : Int) _ hcu hl).mono ?_; rintro e w' ⟨g', p, c, rfl, h1, h2, hc, ho⟩; rw [← HB2.out] at hc; have hbx := hc.ex; obtain ⟨_, _, _, _, _, _, _, hb3, _⟩ := hbx; have d2 := hb3.c2))
      all_goals go_ret
      all_goals (rw [HV2.out, ← HB2.out]; exact ⟨g', p, c, rfl, Nat.le_trans hou.size h1, h2, hc, hou.then ho⟩)
  · have hv : vecS s bad width least most = (outS s1 b1 (n : Int), leftS s1 b1 (n : Int), badS s1 b1 (n : Int)) := by rw [HV.out, if_neg (fun h => hok (HB2.out.trans h.1))]
    have HV2 := Lib.hid hv
    have hi : (b2 == 0) = false := by simpa using hok
    clear hv hb2
    go_enter Try.func60, Try.ntmps60
    go_wp2_with (first
      | (go_at_call 57; refine (HU _ HR.out).mono ?_; rintro e wu ⟨rfl, hcu, hou⟩)
      | (go_at_call 59; refine (rbytes_c r g L s1 b1 (n : Int) _ hcu hl).mono ?_; rintro e w' ⟨g', p, c, rfl, h1, h2, hc, ho⟩; rw [← HB2.out] at hc; have hbx := hc.ex; obtain ⟨_, _, _, _, _, _, _, hb3, _⟩ := hbx; have d2 := hb3.c2))
    all_goals go_ret
    all_goals (rw [HV2.out, ← HB2.out]; exact ⟨g', p, c, rfl, Nat.le_trans hou.size h1, h2, hc, hou.then ho⟩)
end Go.Proofs.Ytegmimnhkohaoaa
