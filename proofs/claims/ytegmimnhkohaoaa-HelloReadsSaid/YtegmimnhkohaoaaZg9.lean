/-
  The contracts of relayref07's Reader: Bytes (all cases), Uint, Vector, Left, Done. Conditions: at most 2 to the 47th bytes.
-/
import Derived.Test.YtegmimnhkohaoaaZRfA
import Derived.Test.YtegmimnhkohaoaaZg6
import Derived.Test.YtegmimnhkohaoaaZg8
namespace Go.Proofs.Ytegmimnhkohaoaa
open Go.RowKit Go.Kx
set_option linter.unusedVariables false
set_option linter.unusedSimpArgs false

theorem rbytes_c (r g : Nat) (L s : List UInt8) (bad n : Int) (w : World) (hr : Rf w r g L s bad) (hl : L.length ≤ 140737488355328) :
    Calls Try.prog 59 #[rp r, .int .i64 n] w (RToldR w r g L (outS s bad n) (leftS s bad n) (badS s bad n)) := by
  by_cases h : badS s bad n = 0
  · have hbad : bad = 0 := by
      by_cases hb : bad = 0
      · exact hb
      · exact absurd h (badS_ne hb)
    subst hbad
    have hn : ¬ n < 0 := by intro hn; unfold badS rm at h; rw [if_pos hn, if_pos rfl] at h; exact absurd h (by decide)
    have hn2 : ¬ (s.length : Int) < n := by intro hl2; unfold badS rm at h; rw [if_neg hn, if_pos hl2, if_pos rfl] at h; exact absurd h (by decide)
    obtain ⟨m, rfl⟩ : ∃ m : Nat, n = m := ⟨n.toNat, by omega⟩
    have h1 : outS s 0 (m : Int) = s.take m := by unfold outS; rw [if_pos h]; simp
    have h2 : leftS s 0 (m : Int) = s.drop m := by unfold leftS; rw [if_pos h]; simp
    rw [h1, h2, h]
    exact rbytes_yes r g m L s w hr hl (by omega)
  · exact rbytes_no r g L s bad n w hr h

theorem rleft_c (r g : Nat) (L s : List UInt8) (bad : Int) (w : World) (hr : Rf w r g L s bad) :
    Calls Try.prog 103 #[rp r] w fun e w' => e = .returned (.int .i64 (s.length : Int)) ∧ Only (fun _ => False) w w' := by
  obtain ⟨hne, hlt, p, m, c, a, e1, e2, e3, hb, hR, e4, e5, e6, e7⟩ := id hr
  have hsl : (s.length : Int) = (m : Int) - (a : Int) := by rw [← e3, List.length_drop]; omega
  have c0 := hb.c0
  have c1 := hb.c1
  unfold maxLen at e5
  have i1 : IntKind.i64.wrap ((m : Int) - (a : Int)) = (m : Int) - (a : Int) := IntWalk.i64_in _ ⟨by omega, by omega⟩
  clear hr hb hR e6 e7
  go_enter Try.func103, Try.ntmps103
  go_wp2
  go_quiet (fail)
  go_wp2
  go_ret
  rw [hsl]
  exact ⟨rfl, Only.drewN _ (Only.refl _ _)⟩

theorem rdone_c (r g : Nat) (L s : List UInt8) (bad : Int) (w : World) (hr : Rf w r g L s bad) :
    Calls Try.prog 63 #[rp r] w fun e w' => e = .returned (.int .i64 (doneS s bad)) ∧ Only (fun _ => False) w w' := by
  obtain ⟨hne, hlt, p, m, c, a, e1, e2, e3, hb, hR, e4, e5, e6, e7⟩ := id hr
  have c2 := hb.c2
  by_cases h : bad = 0
  · subst h
    by_cases hs : s = []
    · subst hs
      go_enter Try.func63, Try.ntmps63
      go_wp2_with (go_at_call 103; refine (rleft_c r g L [] 0 _ hr).mono ?_; rintro e w' ⟨rfl, ho⟩)
      go_ret
      exact ⟨by simp [doneS], ho⟩
    · have h0 : 0 < s.length := List.length_pos_iff.2 hs
      have hd : doneS s 0 = 3 := by simp [doneS, hs]
      go_enter Try.func63, Try.ntmps63
      go_wp2_with (go_at_call 103; refine (rleft_c r g L s 0 _ hr).mono ?_; rintro e w' ⟨rfl, ho⟩)
      go_ret
      rw [hd]
      exact ⟨rfl, ho⟩
  · have hi : (bad != 0) = true := by simpa using h
    go_enter Try.func63, Try.ntmps63
    go_wp2
    go_ret
    exact ⟨by simp [doneS, h], Only.refl _ _⟩

/-- One round of the document's Uint. -/
def RURel (wa : World) (l : List UInt8) (v6 v7 : Value) (wr : World) : Prop := ∃ i : Nat, v7 = .int .i64 (i : Int) ∧ v6 = .int .i64 (beN (l.take i) : Nat) ∧ i ≤ l.length ∧ ∃ k, wr = wa.drewN k

def RUintR (w : World) (r g : Nat) (L s : List UInt8) (bad width : Int) (e : Ending) (w' : World) : Prop :=
  e = .returned (.int .i64 (beN (outS s (wb bad width) width) : Nat)) ∧ Rf w' r g L (leftS s (wb bad width) width) (badS s (wb bad width) width) ∧ Only (· = r) w w'

set_option maxHeartbeats 1000000 in
theorem rfuint_c (r g : Nat) (L s : List UInt8) (bad width : Int) (w : World) (hr : Rf w r g L s bad) (hl : L.length ≤ 140737488355328) :
    Calls Try.prog 57 #[rp r, .int .i64 width] w (RUintR w r g L s bad width) := by
  have hX : ∃ b1, b1 = wb bad width := ⟨_, rfl⟩
  obtain ⟨b1, hb1⟩ := hX
  have h4 := out_four s bad width
  unfold RUintR
  rw [← hb1] at h4 ⊢
  obtain ⟨hne, hlt, p, m, c, a, e1, e2, e3, hb, hR, e4, e5, e6, e7⟩ := id hr
  have c2 := hb.c2
  have f2 := hb.fr 2
  clear hb hR e1 e2 e3 e4 e5 e6 e7
  obtain ⟨l, hL⟩ : ∃ l, l = outS s b1 width := ⟨_, rfl⟩
  rw [← hL] at h4 ⊢
  have HLL := Lib.hid hL
  have HB1 := Lib.hid hb1
  have HR := Lib.hid hr
  clear hL hb1 hr
  go_enter Try.func57, Try.ntmps57
  go_upto_region 1 with (fail)
  go_cut [20] (fun v20 wx => v20 = .bool (decide (bad = 0 ∧ ¬ (1 ≤ width ∧ width ≤ 4))) ∧ w = wx)
  case first =>
    by_cases hbad : bad = 0
    · subst hbad
      by_cases h1 : width < 1
      · go_wp2
        all_goals go_meet
        all_goals exact ⟨congrArg Value.bool (by simp; omega), rfl⟩
      · by_cases h2 : 4 < width
        · go_wp2
          all_goals go_meet
          all_goals exact ⟨congrArg Value.bool (by simp; omega), rfl⟩
        · go_wp2
          all_goals go_meet
          all_goals exact ⟨congrArg Value.bool (by simp; omega), rfl⟩
    · have hi : (bad == 0) = false := by simpa using hbad
      go_wp2
      all_goals go_meet
      all_goals exact ⟨congrArg Value.bool (by simp [hbad]), rfl⟩
  case rest =>
  obtain ⟨rfl, rfl⟩ := hcut
  by_cases hq : bad = 0 ∧ ¬ (1 ≤ width ∧ width ≤ 4)
  · rw [decide_eq_true hq]
    have hfin : Rf (w.setCell ⟨r, 2, none⟩ (.int .i64 3)) r g L s b1 := by
      have : b1 = 3 := by rw [HB1.out]; unfold wb rm; rw [if_neg hq.2, if_pos hq.1]
      rw [this]
      exact HR.out.fail 3
    have HF := Lib.hid hfin
    clear hfin hq
    have HO1 := Lib.hid ((Only.refl (fun k => k = r) w).setCell ⟨r, 2, none⟩ (.int .i64 3) (.inl rfl))
    go_wp2_with (go_at_call 59; refine (rbytes_c r g L s b1 width _ HF.out hl).mono ?_; rintro e w' ⟨g', p, c', rfl, k1, k2, k3, k4⟩)
    rw [← HLL.out] at k2 ⊢
    have hRl := k2.rd
    have HK3 := Lib.hid k3
    have HK4 := Lib.hid k4
    clear k1 k2 k3 k4
    go_loopw [6, 7] (fun v6 v7 wr => RURel w' l v6 v7 wr) (fun _ v7 _ => l.length - (intOf v7).toNat)
    case atStart => exact ⟨0, rfl, rfl, by omega, 0, rfl⟩
    case round =>
      obtain ⟨i, rfl, rfl, hi, k, rfl⟩ := hrel
      have hbl := beN_small (l.take i) (by rw [List.length_take]; omega)
      by_cases hlt : i < l.length
      · obtain ⟨b, o, rfl, rfl, _, hat⟩ := hRl.at (by omega)
        have d0 := hat i hlt
        clear hat
        generalize hxe : l[i] = x at d0
        have hx := x.toNat_lt
        have HX := Lib.hid hxe
        clear hxe
        generalize hm : beN (l.take i) = m at *
        have HM := Lib.hid hm
        clear hm
        go_wp2
        refine ⟨⟨i + 1, by simp, ?_, by omega, by first | exact ⟨k, rfl⟩ | exact ⟨k + 1, rfl⟩ | exact ⟨_, rfl⟩⟩, by simp [intOf]; omega⟩
        rw [List.take_succ_eq_append_getElem hlt, beN_snoc, HM.out, HX.out]
        simp
      · have hil : i = l.length := by omega
        subst hil
        rw [List.take_length] at hbl ⊢
        go_wp2
        go_ret
        exact ⟨rfl, HK3.out.only (Only.drewN _ (Only.refl (fun _ => False) _)) (fun h => h) (fun h => h), Only.drewN _ (HO1.out.then HK4.out)⟩
  · rw [decide_eq_false hq]
    have hfin : Rf w r g L s b1 := by
      have : b1 = bad := by
        rw [HB1.out]
        unfold wb rm
        split
        · rfl
        · rename_i h
          rw [if_neg (fun e => hq ⟨e, h⟩)]
      rw [this]
      exact HR.out
    have HF := Lib.hid hfin
    clear hfin hq
    have HO1 := Lib.hid (Only.refl (fun k => k = r) w)
    go_wp2_with (go_at_call 59; refine (rbytes_c r g L s b1 width _ HF.out hl).mono ?_; rintro e w' ⟨g', p, c', rfl, k1, k2, k3, k4⟩)
    rw [← HLL.out] at k2 ⊢
    have hRl := k2.rd
    have HK3 := Lib.hid k3
    have HK4 := Lib.hid k4
    clear k1 k2 k3 k4
    go_loopw [6, 7] (fun v6 v7 wr => RURel w' l v6 v7 wr) (fun _ v7 _ => l.length - (intOf v7).toNat)
    case atStart => exact ⟨0, rfl, rfl, by omega, 0, rfl⟩
    case round =>
      obtain ⟨i, rfl, rfl, hi, k, rfl⟩ := hrel
      have hbl := beN_small (l.take i) (by rw [List.length_take]; omega)
      by_cases hlt : i < l.length
      · obtain ⟨b, o, rfl, rfl, _, hat⟩ := hRl.at (by omega)
        have d0 := hat i hlt
        clear hat
        generalize hxe : l[i] = x at d0
        have hx := x.toNat_lt
        have HX := Lib.hid hxe
        clear hxe
        generalize hm : beN (l.take i) = m at *
        have HM := Lib.hid hm
        clear hm
        go_wp2
        refine ⟨⟨i + 1, by simp, ?_, by omega, by first | exact ⟨k, rfl⟩ | exact ⟨k + 1, rfl⟩ | exact ⟨_, rfl⟩⟩, by simp [intOf]; omega⟩
        rw [List.take_succ_eq_append_getElem hlt, beN_snoc, HM.out, HX.out]
        simp
      · have hil : i = l.length := by omega
        subst hil
        rw [List.take_length] at hbl ⊢
        go_wp2
        go_ret
        exact ⟨rfl, HK3.out.only (Only.drewN _ (Only.refl (fun _ => False) _)) (fun h => h) (fun h => h), Only.drewN _ (HO1.out.then HK4.out)⟩

theorem rvector_c (r g : Nat) (L s : List UInt8) (bad width least most : Int) (w : World) (hr : Rf w r g L s bad) (hl : L.length ≤ 140737488355328) :
    Calls Try.prog 60 #[rp r, .int .i64 width, .int .i64 least, .int .i64 most] w (RToldR w r g L (vecS s bad width least most).1 (vecS s bad width least most).2.1 (vecS s bad width least most).2.2) := by
  obtain ⟨out, hout⟩ : ∃ out, out = outS s (wb bad width) width := ⟨_, rfl⟩
  obtain ⟨s1, hs1⟩ : ∃ s1, s1 = leftS s (wb bad width) width := ⟨_, rfl⟩
  obtain ⟨b1, hb1⟩ : ∃ b1, b1 = badS s (wb bad width) width := ⟨_, rfl⟩
  obtain ⟨n, hn⟩ : ∃ n, n = beN out := ⟨_, rfl⟩
  have hvec : vecS s bad width least most = if badS s1 b1 (n : Int) = 0 ∧ ((n : Int) < least ∨ most < (n : Int)) then ([], leftS s1 b1 (n : Int), 3) else (outS s1 b1 (n : Int), leftS s1 b1 (n : Int), badS s1 b1 (n : Int)) := by
    unfold vecS; rw [hn, hout, hs1, hb1]
  have HV := Lib.hid hvec
  have HR := Lib.hid hr
  have HU : ∀ wx, Rf wx r g L s bad → Calls Try.prog 57 #[rp r, .int .i64 width] wx (fun e w' => e = .returned (.int .i64 (n : Int)) ∧ Rf w' r g L s1 b1 ∧ Only (· = r) wx w') := by
    intro wx h
    refine (rfuint_c r g L s bad width wx h hl).mono ?_
    rintro e w' ⟨h1, h2, h3⟩
    rw [hn, hout, hs1, hb1]
    exact ⟨h1, h2, h3⟩
  clear hvec hr hn hout hs1 hb1
  obtain ⟨b2, hb2⟩ : ∃ b2, b2 = badS s1 b1 (n : Int) := ⟨_, rfl⟩
  have HB2 := Lib.hid hb2
  by_cases hok : b2 = 0
  · by_cases hlm : (n : Int) < least ∨ most < (n : Int)
    · have hv : vecS s bad width least most = ([], leftS s1 b1 (n : Int), 3) := by rw [HV.out, ← HB2.out, if_pos ⟨hok, hlm⟩]
      have HV2 := Lib.hid hv
      clear hv hb2
      subst hok
      go_enter Try.func60, Try.ntmps60
      go_wp2_with (first
        | (go_at_call 57; refine (HU _ HR.out).mono ?_; rintro e wu ⟨rfl, hcu, hou⟩)
        | (go_at_call 59; refine (rbytes_c r g L s1 b1 (n : Int) _ hcu hl).mono ?_; rintro e w' ⟨g', p, c, rfl, h1, h2, hc, ho⟩; rw [← HB2.out] at hc; have hbx := hc.ex; obtain ⟨_, _, _, _, _, _, _, hb3, _⟩ := hbx; have d2 := hb3.c2; have f2 := hb3.fr 2))
      all_goals go_ret
      all_goals (rw [HV2.out]; exact ⟨_, none, 0, rfl, Nat.le_trans hou.size (Nat.le_trans ho.size (Nat.le_refl _)), Own.nil _ _, hc.fail 3, (hou.then ho).setCell ⟨r, 2, none⟩ _ (.inl rfl)⟩)
    · have hv : vecS s bad width least most = (outS s1 b1 (n : Int), leftS s1 b1 (n : Int), badS s1 b1 (n : Int)) := by rw [HV.out, if_neg (fun h => hlm h.2)]
      have HV2 := Lib.hid hv
      clear hv hb2
      have hl1 : ¬ (n : Int) < least := by omega
      have hl2 : ¬ most < (n : Int) := by omega
      subst hok
      go_enter Try.func60, Try.ntmps60
      go_wp2_with (first
        | (go_at_call 57; refine (HU _ HR.out).mono ?_; rintro e wu ⟨rfl, hcu, hou⟩)
        | (go_at_call 59; refine (rbytes_c r g L s1 b1 (n : Int) _ hcu hl).mono ?_; rintro e w' ⟨g', p, c, rfl, h1, h2, hc, ho⟩; rw [← HB2.out] at hc; have hbx := hc.ex; obtain ⟨_, _, _, _, _, _, _, hb3, _⟩ := hbx; have d2 := hb3.c2))
      all_goals go_ret
      all_goals (rw [HV2.out, ← HB2.out]; exact ⟨g', p, c, rfl, Nat.le_trans hou.size h1, h2, hc, hou.then ho⟩)
  · have hv : vecS s bad width least most = (outS s1 b1 (n : Int), leftS s1 b1 (n : Int), badS s1 b1 (n : Int)) := by rw [HV.out, if_neg (fun h => hok (HB2.out.trans h.1))]
    have HV2 := Lib.hid hv
    have hi : (b2 == 0) = false := by simpa using hok
    clear hv hb2
    go_enter Try.func60, Try.ntmps60
    go_wp2_with (first
      | (go_at_call 57; refine (HU _ HR.out).mono ?_; rintro e wu ⟨rfl, hcu, hou⟩)
      | (go_at_call 59; refine (rbytes_c r g L s1 b1 (n : Int) _ hcu hl).mono ?_; rintro e w' ⟨g', p, c, rfl, h1, h2, hc, ho⟩; rw [← HB2.out] at hc; have hbx := hc.ex; obtain ⟨_, _, _, _, _, _, _, hb3, _⟩ := hbx; have d2 := hb3.c2))
    all_goals go_ret
    all_goals (rw [HV2.out, ← HB2.out]; exact ⟨g', p, c, rfl, Nat.le_trans hou.size h1, h2, hc, hou.then ho⟩)
end Go.Proofs.Ytegmimnhkohaoaa
/-
  The contracts of relayref08.fail and numbers. Condition: at most 2 to the 46th bytes.
-/
namespace Go.Proofs.Ytegmimnhkohaoaa
open Go.RowKit Go.Kx
set_option linter.unusedVariables false
set_option linter.unusedSimpArgs false
set_option maxRecDepth 100000

def failB (bad : Int) (is : Bool) : Int := if is then rm bad 3 else bad
def RfR (w : World) (r g : Nat) (L : List UInt8) (x : List UInt8 × Int) (e : Ending) (w' : World) : Prop := e = .returned ret0 ∧ Rf w' r g L x.1 x.2 ∧ Only (· = r) w w'
theorem rfail_c (r g : Nat) (L s : List UInt8) (bad : Int) (is : Bool) (w : World) (hr : Rf w r g L s bad) : Calls Try.prog 58 #[rp r, .bool is] w (RfR w r g L (s, failB bad is)) := by
  obtain ⟨hne, hlt, p, m, c, a, e1, e2, e3, hb, hR, e4, e5, e6, e7⟩ := id hr
  have c2 := hb.c2
  have f2 := hb.fr 2
  clear hb hR e1 e2 e3 e4 e5 e6 e7
  have HR := Lib.hid hr
  clear hr
  cases is
  · go_enter Try.func58, Try.ntmps58
    go_wp2
    go_end0
    exact ⟨rfl, HR.out, Only.refl _ _⟩
  · by_cases hbad : bad = 0
    · subst hbad
      go_enter Try.func58, Try.ntmps58
      go_wp2
      go_end0
      exact ⟨rfl, HR.out.fail 3, (Only.refl (fun k => k = r) w).setCell ⟨r, 2, none⟩ _ (.inl rfl)⟩
    · have hi : (bad == 0) = false := by simpa using hbad
      have hf : failB bad true = bad := by unfold failB rm; rw [if_pos rfl, if_neg hbad]
      rw [hf]
      clear hf
      go_enter Try.func58, Try.ntmps58
      go_wp2
      go_end0
      exact ⟨rfl, HR.out, Only.refl _ _⟩

/-- Two bytes each. -/
def pairL : List UInt8 → List Int
  | a :: b :: t => ((a.toNat : Int) * 256 + (b.toNat : Int)) :: pairL t
  | _ => []
theorem pairL_short (l : List UInt8) (h : l.length ≤ 1) : pairL l = [] := by
  match l, h with
  | [], _ => rfl
  | [a], _ => rfl
theorem pairL_drop (l : List UInt8) (i : Nat) (h : i + 1 < l.length) : pairL (l.drop i) = (((l[i]'(by omega)).toNat : Int) * 256 + ((l[i + 1]'h).toNat : Int)) :: pairL (l.drop (i + 2)) := by
  rw [List.drop_eq_getElem_cons (by omega), List.drop_eq_getElem_cons (i := i + 1) h]
  rfl
def rnB (n : Nat) (most bad : Int) : Int := failB bad (decide (n % 2 ≠ 0 ∨ n < 2 ∨ 2 * most < (n : Int)))
def rnumsS (s : List UInt8) (bad W most : Int) : List Int × List UInt8 × Int := (pairL (vecS s bad W 0 65535).1, (vecS s bad W 0 65535).2.1, rnB (vecS s bad W 0 65535).1.length most (vecS s bad W 0 65535).2.2)
def RNumR {α : Type} (Sl : World → (Nat → Prop) → Option Addr → Nat → Nat → List α → Prop) (w : World) (r g : Nat) (L : List UInt8) (y : List α × List UInt8 × Int) (e : Ending) (w' : World) : Prop :=
  ∃ p n c, e = .returned (.slice p n c) ∧ Sl w' (fun k => w.heap.size ≤ k) p n c y.1 ∧ Rf w' r g L y.2.1 y.2.2 ∧ Only (· = r) w w'
theorem SlI.ofRow {w : World} {e g M : Nat} {v : Value} {l : List Int} (h : Row w e 1 g v l.length (l.map I64)) (hg : M ≤ g) : ∃ p c, v = .slice p l.length c ∧ SlI w (fun k => M ≤ k) p l.length c l := by
  obtain ⟨p, c, he, h1, h2⟩ := NuL.at (S := fun k => M ≤ k) (show NuL w _ (l.map I64) l from rfl) h
  exact ⟨p, c, he, rfl, RdV.mono h1 (fun k _ hk => by rcases hk with hk | hk; exact hk; omega), h2⟩

set_option maxHeartbeats 4000000 in
theorem rnumbers_c (r g : Nat) (L s : List UInt8) (bad W most : Int) (w : World) (hr : Rf w r g L s bad) (hl : L.length ≤ 140737488355328) (hm0 : 0 ≤ most) (hm1 : most ≤ 1000) : Calls Try.prog 61 #[rp r, .int .i64 W, .int .i64 most] w (RNumR SlI w r g L (rnumsS s bad W most)) := by
  have hsh : (vecS s bad W 0 65535).1.length ≤ 65535 := vecS_short s bad W 0 65535
  have hlt := hr.rlt
  have hgl := hr.lt
  have hne := hr.ne
  have HV := Lib.hid (rvector_c r g L s bad W 0 65535 w hr hl)
  have hy : rnumsS s bad W most = (pairL (vecS s bad W 0 65535).1, (vecS s bad W 0 65535).2.1, rnB (vecS s bad W 0 65535).1.length most (vecS s bad W 0 65535).2.2) := rfl
  rw [hy]
  clear hy hr
  obtain ⟨v, hv⟩ : ∃ v, v = vecS s bad W 0 65535 := ⟨_, rfl⟩
  rw [← hv] at HV hsh ⊢
  clear hv
  obtain ⟨b, s1, b1⟩ := v
  simp only at HV hsh ⊢
  obtain ⟨n, hn⟩ : ∃ n, n = b.length := ⟨_, rfl⟩
  have HN := Lib.hid hn
  rw [← hn] at hsh ⊢
  clear hn
  have hw2 : IntKind.i64.wrap (2 * most) = 2 * most := IntWalk.i64_in _ ⟨by omega, by omega⟩
  obtain ⟨is, his⟩ : ∃ is, is = decide (n % 2 ≠ 0 ∨ n < 2 ∨ 2 * most < (n : Int)) := ⟨_, rfl⟩
  have hrn : rnB n most b1 = failB b1 is := by rw [his]; rfl
  rw [hrn]
  clear hrn
  go_enter Try.func61, Try.ntmps61
  go_upto_region 2 with (go_at_call 60; refine HV.out.mono ?_; rintro e w1 ⟨g', p, c, rfl, h1, hO, hc, ho⟩; rw [← HN.out] at hO ⊢; have H1 := Lib.hid (And.intro hO (And.intro hc ho)); clear hO hc ho)
  go_cut [30] (fun _ wx => Rf wx r g L s1 (failB b1 is) ∧ Own wx g' (.slice p n c) b ∧ Only (· = r) w wx)
  case first =>
    have HF := Lib.hid (rfail_c r g L s1 b1 is w1 H1.out.2.1)
    by_cases h1 : n % 2 = 0
    · have hb1 : ((n : Int) % 2 != 0) = false := by simp; omega
      by_cases h2 : n < 2
      · obtain rfl : is = true := by rw [his]; simp; omega
        clear his h1
        go_wp2_with (go_at_call 58; refine HF.out.mono ?_; rintro e w2 ⟨rfl, hc2, ho2⟩; have H2 := Lib.hid (And.intro hc2 (And.intro (H1.out.1.only ho2 (by omega)) (H1.out.2.2.then ho2))); clear hc2 ho2)
        all_goals go_meet
        all_goals exact H2.out
      · have hd2 : decide ((n : Int) < 2) = false := by simp; omega
        by_cases h3 : 2 * most < (n : Int)
        · obtain rfl : is = true := by rw [his]; simp; omega
          clear his h1
          go_wp2_with (go_at_call 58; refine HF.out.mono ?_; rintro e w2 ⟨rfl, hc2, ho2⟩; have H2 := Lib.hid (And.intro hc2 (And.intro (H1.out.1.only ho2 (by omega)) (H1.out.2.2.then ho2))); clear hc2 ho2)
          all_goals go_meet
          all_goals exact H2.out
        · have hd3 : decide (2 * most < (n : Int)) = false := by simpa using h3
          obtain rfl : is = false := by rw [his]; simp; omega
          clear his h1
          go_wp2_with (go_at_call 58; refine HF.out.mono ?_; rintro e w2 ⟨rfl, hc2, ho2⟩; have H2 := Lib.hid (And.intro hc2 (And.intro (H1.out.1.only ho2 (by omega)) (H1.out.2.2.then ho2))); clear hc2 ho2)
          all_goals go_meet
          all_goals exact H2.out
    · have hb1 : ((n : Int) % 2 != 0) = true := by simp; omega
      obtain rfl : is = true := by rw [his]; simp; omega
      clear his h1
      go_wp2_with (go_at_call 58; refine HF.out.mono ?_; rintro e w2 ⟨rfl, hc2, ho2⟩; have H2 := Lib.hid (And.intro hc2 (And.intro (H1.out.1.only ho2 (by omega)) (H1.out.2.2.then ho2))); clear hc2 ho2)
      all_goals go_meet
      all_goals exact H2.out
  case rest =>
    have HC := Lib.hid hcut
    clear hcut H1 HV his
    have hz2 := HC.out.2.2.size
    generalize failB b1 is = b2 at *
    go_wp2_with fail
    go_loopw [8, 9] (fun v8 v9 wr => ∃ (i : Nat) (A : List Int) (pp : Option Addr) (cc gg : Nat), v9 = .int .i64 (i : Int) ∧ v8 = .slice pp A.length cc ∧ i ≤ n ∧ A.length * 2 = i ∧ Row wr 3 1 gg (.slice pp A.length cc) A.length (A.map I64) ∧ wc.heap.size ≤ gg ∧ pairL b = A ++ pairL (b.drop i) ∧ Below wc.heap.size wc wr) (fun _ v9 _ => n - (intOf v9).toNat)
    case atStart => exact ⟨0, [], none, 0, wc.heap.size, rfl, rfl, Nat.zero_le _, rfl, Row.nil _ _ _ _, Nat.le_refl _, rfl, Below.refl _ _⟩
    case round =>
      obtain ⟨i, A, pp, cc, gg, rfl, rfl, hi, hA, hR, hgg, hp, hB⟩ := hrel
      have hzr := hB.size
      have I := Lib.hid (And.intro hR (And.intro hp hB))
      have HA := Lib.hid hA
      have hA2 : A.length ≤ 65535 := by omega
      clear hR hp hB hA
      have w1 : IntKind.i64.wrap ((i : Int) + 1) = (i : Int) + 1 := IntWalk.i64_in _ (by omega)
      have w2 : IntKind.i64.wrap ((i : Int) + 2) = ((i + 2 : Nat) : Int) := IntWalk.i64_in _ (by omega)
      by_cases hlt : i + 1 < n
      · have HLT := Lib.hid hlt
        have hld : decide ((i : Int) + 1 < (n : Int)) = true := by simp; omega
        obtain ⟨gb, o, hp', -, hgb, hc⟩ := (HC.out.2.1.rd.only (Only.of_below (r := fun _ => False) I.out.2.2) (fun _ _ h => h)).at (by rw [← HN.out]; omega)
        have hp2 := hc i (by rw [← HN.out]; omega)
        have hp3 := hc (i + 1) (by rw [← HN.out]; omega)
        have hpd := pairL_drop b i (by rw [← HN.out]; exact hlt)
        obtain ⟨x, hx⟩ : ∃ x, x = b[i]'(by rw [← HN.out]; omega) := ⟨_, rfl⟩
        obtain ⟨y, hy⟩ : ∃ y, y = b[i + 1]'(by rw [← HN.out]; omega) := ⟨_, rfl⟩
        rw [← hx] at hp2 hpd
        rw [← hy] at hp3 hpd
        have HPD := Lib.hid hpd
        have hxl := x.toNat_lt
        have hyl := y.toNat_lt
        clear hx hy hpd hc hlt
        subst hp'
        have k1 : IntKind.i64.wrap (x.toNat : Int) = (x.toNat : Int) := IntWalk.i64_in _ (by omega)
        have k2 : IntKind.i64.wrap (y.toNat : Int) = (y.toNat : Int) := IntWalk.i64_in _ (by omega)
        have k3 : IntKind.i64.wrap ((x.toNat : Int) * 256) = (x.toNat : Int) * 256 := IntWalk.i64_in _ (by omega)
        have k4 : IntKind.i64.wrap ((x.toNat : Int) * 256 + (y.toNat : Int)) = (x.toNat : Int) * 256 + (y.toNat : Int) := IntWalk.i64_in _ (by omega)
        have hi0 : (0 : Int) ≤ (i : Int) := by omega
        have hi1 : (0 : Int) ≤ (i : Int) + 1 := by omega
        have hi2 : (i : Int) < (n : Int) := by have := HLT.out; omega
        have hi3 : (i : Int) + 1 < (n : Int) := by have := HLT.out; omega
        have hi4 : ((i : Int) + 1).toNat = i + 1 := by omega
        have hba : Below wr.heap.size wr (wr.alloc (.cells #[.int .i64 ((x.toNat : Int) * 256 + (y.toNat : Int))] 3)) := (Below.refl _ _).alloc (Nat.le_refl _) _
        have HBA := Lib.hid hba.drew
        clear hba
        go_wp2_with fail
        go_region_law ((refine step_append_row rfl _ _ 43 rfl 3 (.int .i64 0) 1 8 Try.underlying43 Try.infoInt rfl (by decide) gg (.slice pp A.length cc) A.length (A.map I64) (by simp [Act.eval, Act.put]) (Row.only I.out.1 (Only.of_below (r := fun _ => False) HBA.out) (fun h => h)) ⟨wr.heap.size, 0, none⟩ 1 1 [.int .i64 ((x.toNat : Int) * 256 + (y.toNat : Int))] (by simp [Act.eval, Act.put]) rfl (cell_one wr _ _) (by simp [Value.oneCell']) (by simp only [maxLen]; omega) (by omega) (wr.heap.size + 1) (by simp) ?_; intro g2 v2 w5 hrow hg2 hO5q; have hO5 : Only (· = gg) wr w5 := (Only.of_below (r := fun k => k = gg) HBA.out).then hO5q; obtain ⟨p5, k5, rfl, -⟩ := Row.form hrow; have H5 := Lib.hid (And.intro hrow hO5); clear hrow hO5q hO5))
        all_goals
          go_wp2
          go_roundw
          case rel =>
            refine ⟨i + 2, A ++ [(x.toNat : Int) * 256 + (y.toNat : Int)], p5, k5, g2, by go_num, by rw [List.length_append, List.length_singleton], by have := HLT.out; omega, by rw [List.length_append, List.length_singleton]; have := HA.out; omega, ?_, by rcases hg2 with h | h <;> omega, ?_, below_only I.out.2.2 hzr H5.out.2 (by intro k hk e; omega)⟩
            · rw [List.length_append, List.map_append]
              exact H5.out.1
            · rw [I.out.2.1, HPD.out]
              simp
          case measure => have := HLT.out; simp [intOf]; omega
      · have hld : decide ((i : Int) + 1 < (n : Int)) = false := by simp; omega
        have hnlt : ¬ ((i : Int) + 1 < (n : Int)) := by omega
        have hfin : pairL b = A := by
          rw [I.out.2.1, pairL_short _ (by rw [List.length_drop, ← HN.out]; omega), List.append_nil]
        have HFI := Lib.hid hfin
        clear hfin
        go_wp2
        go_ret
        have hR := I.out.1
        obtain ⟨p', c', he, hS⟩ := SlI.ofRow hR (M := w.heap.size) (by omega)
        cases he
        rw [HFI.out]
        exact ⟨pp, A.length, cc, rfl, hS, HC.out.1.only (Only.of_below (r := fun _ => False) I.out.2.2) (fun h => h) (fun h => h), HC.out.2.2.then (Only.of_below I.out.2.2)⟩
end Go.Proofs.Ytegmimnhkohaoaa
/-
  The contract of relayref08.clientExt, but for shares and tickets. Condition: at most 2 to the 46th bytes.
-/
namespace Go.Proofs.Ytegmimnhkohaoaa
open Go.RowKit Go.Kx
set_option linter.unusedVariables false
set_option linter.unusedSimpArgs false
set_option maxRecDepth 100000

/-- A Client of the document in a block; its slices lie in blocks of S. -/
structure CB (w : World) (q0 : Nat) (S : Nat → Prop) (s : Cl) (z : Z10) : Prop where
  b : Blk w q0 48 (clV s z)
  i : IsCl w S s z
section
variable {w w' : World} {q0 : Nat} {S T X : Nat → Prop} {s : Cl} {z : Z10}
theorem CB.only (h : CB w q0 S s z) (ho : Only X w w') (hX : ∀ k, X k → ¬ S k ∧ k ≠ q0) : CB w' q0 S s z :=
  ⟨h.b.only ho (fun hx => (hX _ hx).2 rfl), h.i.only ho (fun k hk hx => (hX k hx).1 hk)⟩
theorem CB.mono (h : CB w q0 S s z) (hT : ∀ k, k < w.heap.size → S k → T k) : CB w q0 T s z := ⟨h.b, h.i.mono hT⟩
theorem CB.cell (h : CB w q0 S s z) (k : Nat) : w.cell? ⟨q0, 32 + k, none⟩ = (clL z)[k]? := (h.b.c (32 + k)).trans (clV_get s z h.i.len k)
theorem CB.put (h : CB w q0 S s z) (hq : ¬ S q0) (k : Nat) (v : Value) (s' : Cl) (z' : Z10) (hL : (clL z).set k v = clL z') (hR : s'.R = s.R) (hI : IsCl w S s' z') : CB (w.setCell ⟨q0, 32 + k, none⟩ v) q0 S s' z' := by
  have ho : Only (· = q0) w (w.setCell ⟨q0, 32 + k, none⟩ v) := (Only.refl (fun k => k = q0) w).setCell _ _ (.inl rfl)
  refine ⟨?_, hI.only ho (fun x hx e => hq (e ▸ hx))⟩
  have hb := h.b
  unfold Blk clV at *
  rw [hR, ← hL]
  have e : ((s.R.map B8 ++ clL z).toArray.setIfInBounds (32 + k) v) = (s.R.map B8 ++ (clL z).set k v).toArray := by
    rw [List.setIfInBounds_toArray]
    congr 1
    rw [List.set_append, if_neg (by simp [h.i.len])]
    simp [h.i.len]
  rw [← e]
  simp [World.setCell, Array.getElem?_modify, hb]
end
/-- A Reader of the document's that is new. -/
theorem Rf.new {w : World} {S : Nat → Prop} {p : Option Addr} {n c q : Nat} {b : List UInt8} (h : Rd w S p b) (hn : b.length = n) (hp : p = none → c = 0) (hp2 : ∀ x, p = some x → x.spot = none ∧ x.block < w.heap.size) (h1 : n ≤ c) (h2 : c ≤ maxLen) (hq : q < w.heap.size) :
    ∃ g, g < w.heap.size ∧ (g = q ∨ ∃ o, p = some ⟨g, o, none⟩) ∧ Rf (w.alloc (.cells #[.slice p n c, .int .i64 0, .int .i64 0] 109)) w.heap.size g b b 0 := by
  have hB : Below w.heap.size w (w.alloc (.cells #[.slice p n c, .int .i64 0, .int .i64 0] 109)) := (Below.refl _ _).alloc (Nat.le_refl _) _
  have hbx := Box3.new w 109 (.slice p n c) (.int .i64 0) (.int .i64 0)
  have hz := World.size_alloc w (.cells #[.slice p n c, .int .i64 0, .int .i64 0] 109)
  cases p with
  | none => exact ⟨q, hq, .inl rfl, by omega, by omega, none, n, c, 0, hn, Nat.zero_le _, rfl, hbx, by rw [h.none_nil]; exact Rd.nil _ _ _, h1, h2, hp, fun x hx => by cases hx⟩
  | some x =>
    obtain ⟨g, o, sp⟩ := x
    obtain ⟨hs, hg⟩ := hp2 _ rfl
    simp only at hs hg
    subst hs
    refine ⟨g, hg, .inr ⟨o, rfl⟩, by omega, by omega, some ⟨g, o, none⟩, n, c, 0, hn, Nat.zero_le _, rfl, hbx, ?_, h1, h2, hp, fun x hx => by cases hx; exact ⟨rfl, rfl⟩⟩
    intro i hi
    obtain ⟨a, ha, _, hc⟩ := (h.below hB) i hi
    cases ha
    exact ⟨_, rfl, rfl, hc⟩
theorem own_spot {w : World} {g n c : Nat} {p : Option Addr} {l : List UInt8} (h : Own w g (.slice p n c) l) : ∀ x, p = some x → x.spot = none ∧ x.block < w.heap.size := by
  obtain ⟨p', c', he, _, _, _, _, ha⟩ := h.form
  cases he
  intro x hx
  obtain ⟨h1, h2⟩ := ha x hx
  subst h1
  exact ⟨rfl, h2⟩

/-- What clientExt makes of a Client, and whether it can be. -/
def doneB (s : List UInt8) (bad : Int) : Bool := decide (doneS s bad = 0)
def rKeys (b : List UInt8) : List (Int × List UInt8) × Bool :=
  let v := vecS b 0 2 0 65535
  let z := loopL kF (v.1.length + 1) v.1 0
  (z.1, doneB v.2.1 (failB v.2.2 (decide (doneS z.2.1 z.2.2 ≠ 0 ∨ z.1.length < 1 ∨ 4 < z.1.length))))
def rOff (b : List UInt8) (last : Bool) : (List (List UInt8 × Int) × List (List UInt8)) × Bool :=
  let v := vecS b 0 2 0 65535
  let z := loopL iF (v.1.length + 1) v.1 0
  let u := vecS v.2.1 (failB v.2.2 (decide (doneS z.2.1 z.2.2 ≠ 0 ∨ last = false))) 2 0 65535
  let y := loopL bF (u.1.length + 1) u.1 0
  ((z.1, y.1), doneB u.2.1 (failB u.2.2 (decide (doneS y.2.1 y.2.2 ≠ 0 ∨ z.1.length ≠ y.1.length ∨ z.1.length < 1 ∨ 4 < z.1.length))))
def rcliF (st : Cl) (kind : Int) (s : List UInt8) (last : Bool) : Cl × Bool :=
  if kind = 43 then ({ st with vers := (rnumsS s 0 1 4).1 }, doneB (rnumsS s 0 1 4).2.1 (rnumsS s 0 1 4).2.2)
  else if kind = 10 then ({ st with grps := (rnumsS s 0 2 4).1 }, doneB (rnumsS s 0 2 4).2.1 (rnumsS s 0 2 4).2.2)
  else if kind = 13 then ({ st with schs := (rnumsS s 0 2 4).1 }, doneB (rnumsS s 0 2 4).2.1 (rnumsS s 0 2 4).2.2)
  else if kind = 44 then ({ st with cook := (vecS s 0 2 1 64).1 }, doneB (vecS s 0 2 1 64).2.1 (vecS s 0 2 1 64).2.2)
  else if kind = 45 then ({ st with modes := (vecS s 0 1 1 4).1 }, doneB (vecS s 0 1 1 4).2.1 (vecS s 0 1 1 4).2.2)
  else if kind = 51 then ({ st with shs := (rKeys s).1 }, (rKeys s).2)
  else if kind = 41 then ({ st with ids := (rOff s last).1.1, bnd := (rOff s last).1.2 }, (rOff s last).2)
  else (st, true)
/-- What the call leaves. -/
def RceR (q0 : Nat) (S : Nat → Prop) (w : World) (y : Cl × Bool) (e : Ending) (w' : World) : Prop := e = .returned (.bool y.2) ∧ (∃ z, CB w' q0 (fun k => S k ∨ w.heap.size ≤ k) y.1 z) ∧ Only (· = q0) w w'
/-- .. but for the three slices that grow: which of them stay nil. -/
def RceN (q0 : Nat) (S : Nat → Prop) (w : World) (z0 : Z10) (y : Cl × Bool) (e : Ending) (w' : World) : Prop := e = .returned (.bool y.2) ∧ (∃ z, CB w' q0 (fun k => S k ∨ w.heap.size ≤ k) y.1 z ∧ z.p6 = z0.p6 ∧ z.n6 = z0.n6 ∧ z.c6 = z0.c6 ∧ z.p9 = z0.p9 ∧ z.n9 = z0.n9 ∧ z.c9 = z0.c9 ∧ z.p10 = z0.p10 ∧ z.n10 = z0.n10 ∧ z.c10 = z0.c10) ∧ Only (· = q0) w w'
theorem ext_new {w : World} {q0 gb c : Nat} {S : Nat → Prop} {st : Cl} {z : Z10} {p : Option Addr} {s : List UInt8} (hA : CB w q0 S st z) (hO : Own w gb (.slice p s.length c) s) (hgb : gb ≠ q0) (gx : Nat) (hgx : gx < w.heap.size) (hgx0 : gx ≠ q0) :
    ∃ g r w1, r = w.heap.size ∧ w1 = w.alloc (.cells #[.slice p s.length c, .int .i64 0, .int .i64 0] 109) ∧ w1.heap.size = w.heap.size + 1 ∧ g ≠ q0 ∧ r ≠ q0 ∧ g < w1.heap.size ∧ Rf w1 r g s s 0 ∧ Below w.heap.size w w1 ∧ CB w1 q0 (fun k => S k ∧ k < w.heap.size) st z := by
  obtain ⟨pO, cO, heO, hlO, hcO, hrO, hpO, haO⟩ := hO.form
  cases heO
  have hq0 := hA.b.lt
  have hB : Below w.heap.size w (w.alloc (.cells #[.slice p s.length c, .int .i64 0, .int .i64 0] 109)) := (Below.refl _ _).alloc (Nat.le_refl _) _
  have hz := World.size_alloc w (.cells #[.slice p s.length c, .int .i64 0, .int .i64 0] 109)
  have hA1 := (hA.mono (T := fun k => S k ∧ k < w.heap.size) (fun k hk h => ⟨h, hk⟩)).only (Only.of_below (r := fun _ => False) hB) (fun _ h => h.elim)
  have hbx := Box3.new w 109 (.slice p s.length c) (.int .i64 0) (.int .i64 0)
  cases p with
  | none =>
    have hs : s = [] := hrO.none_nil
    exact ⟨gx, w.heap.size, _, rfl, rfl, hz, hgx0, by omega, by omega, ⟨by omega, by omega, none, s.length, c, 0, rfl, Nat.zero_le _, rfl, hbx, by rw [hs]; exact Rd.nil _ _ _, hlO, hcO, hpO, fun x hx => by cases hx⟩, hB, hA1⟩
  | some x =>
    obtain ⟨h1, h2⟩ := haO x rfl
    subst h1
    exact ⟨gb, w.heap.size, _, rfl, rfl, hz, hgb, by omega, by omega, ⟨by omega, by omega, some ⟨gb, 0, none⟩, s.length, c, 0, rfl, Nat.zero_le _, rfl, hbx, hrO.below hB, hlO, hcO, hpO, fun x hx => by cases hx; exact ⟨rfl, rfl⟩⟩, hB, hA1⟩
theorem done_eq {d : Int} : (d == 0) = decide (d = 0) := by rw [Bool.eq_iff_iff]; simp

set_option maxHeartbeats 4000000 in
theorem rce43 (q0 : Nat) (w : World) (S : Nat → Prop) (st : Cl) (z : Z10) (gb : Nat) (p : Option Addr) (c : Nat) (s : List UInt8) (last : Bool) (hA : CB w q0 S st z) (hS0 : ¬ S q0) (hO : Own w gb (.slice p s.length c) s) (hgb : gb ≠ q0) (gx : Nat) (hgx : gx < w.heap.size) (hgx0 : gx ≠ q0) (hl : s.length ≤ 140737488355328) : Calls Try.prog 104 #[rp q0, .int .i64 43, .slice p s.length c, .bool last] w (RceN q0 S w z (rcliF st 43 s last)) := by
  have hF : rcliF st 43 s last = ({ st with vers := (rnumsS s 0 1 4).1 }, doneB (rnumsS s 0 1 4).2.1 (rnumsS s 0 1 4).2.2) := rfl
  rw [hF]
  clear hF
  obtain ⟨g, r, w1, hr, hw1, hz1, hgq, hrq, hgl, hRf, hB1, hA1⟩ := ext_new hA hO hgb gx hgx hgx0
  have HU := Lib.hid (fun wx (h : Rf wx r g s s 0) => rnumbers_c r g s s 0 1 4 wx h hl (by decide) (by decide))
  generalize rnumsS s 0 1 4 = u at *
  have hlt := hA.b.lt
  have HA := Lib.hid (And.intro hA1 (And.intro hRf hB1))
  clear hA hA1 hO hRf hB1
  go_enter Try.func104, Try.ntmps104
  go_upto_region 2 with (fail)
  rw [← hw1, ← hr]
  have hrge : w.heap.size ≤ r := by omega
  have hrlt : r < w1.heap.size := by omega
  have hwz : w.heap.size < w1.heap.size := by omega
  clear hw1 hr hz1
  go_wp2_with (first
    | (go_at_call 61; refine (HU.out _ HA.out.2.1).mono ?_; rintro e w2 ⟨p1, n1, c1, rfl, hS1, hc, ho⟩; have hA2 := HA.out.1.only ho (fun k hk => by subst hk; exact ⟨fun h => by omega, hrq⟩); have c34 := hA2.cell 2; have f34 := hA2.b.fr 34; have hw := hA2.mono (T := fun k => S k ∨ w.heap.size ≤ k) (fun _ _ h => .inl h.1); have hp := hw.put (by rintro (h | h); exact hS0 h; omega) 2 (.slice p1 n1 c1) { st with vers := u.1 } { z with p3 := p1, n3 := n1, c3 := c1 } rfl rfl ⟨hw.i.len, hw.i.s1, hw.i.s2, hS1.mono (T := fun k => S k ∨ w.heap.size ≤ k) (fun k _ h => .inr (by omega)), hw.i.s4, hw.i.s5, hw.i.s6, hw.i.s7, hw.i.s8, hw.i.s9, hw.i.s10⟩; have ho3 : Only (· = q0) w2 (w2.setCell ⟨q0, 34, none⟩ (.slice p1 n1 c1)) := (Only.refl (fun k => k = q0) w2).setCell _ _ (.inl rfl); have H3 := Lib.hid (And.intro hp (And.intro (hc.only ho3 hrq hgq) (((Only.of_below (r := fun k => k = q0) HA.out.2.2).trans ho (fun _ h => h) (fun k hk e => by omega)).then ho3))); clear hA2 hw hp ho ho3 hc)
    | (go_at_call 63; refine (rdone_c r g s u.2.1 u.2.2 _ H3.out.2.1).mono ?_; rintro e w4 ⟨rfl, ho4⟩))
  go_ret
  exact ⟨congrArg Ending.returned (congrArg Value.bool done_eq), ⟨_, H3.out.1.only ho4 (fun _ h => h.elim), rfl, rfl, rfl, rfl, rfl, rfl, rfl, rfl, rfl⟩, H3.out.2.2.then (ho4.mono (fun _ _ h => h.elim))⟩

set_option maxHeartbeats 4000000 in
theorem rce10 (q0 : Nat) (w : World) (S : Nat → Prop) (st : Cl) (z : Z10) (gb : Nat) (p : Option Addr) (c : Nat) (s : List UInt8) (last : Bool) (hA : CB w q0 S st z) (hS0 : ¬ S q0) (hO : Own w gb (.slice p s.length c) s) (hgb : gb ≠ q0) (gx : Nat) (hgx : gx < w.heap.size) (hgx0 : gx ≠ q0) (hl : s.length ≤ 140737488355328) : Calls Try.prog 104 #[rp q0, .int .i64 10, .slice p s.length c, .bool last] w (RceN q0 S w z (rcliF st 10 s last)) := by
  have hF : rcliF st 10 s last = ({ st with grps := (rnumsS s 0 2 4).1 }, doneB (rnumsS s 0 2 4).2.1 (rnumsS s 0 2 4).2.2) := rfl
  rw [hF]
  clear hF
  obtain ⟨g, r, w1, hr, hw1, hz1, hgq, hrq, hgl, hRf, hB1, hA1⟩ := ext_new hA hO hgb gx hgx hgx0
  have HU := Lib.hid (fun wx (h : Rf wx r g s s 0) => rnumbers_c r g s s 0 2 4 wx h hl (by decide) (by decide))
  generalize rnumsS s 0 2 4 = u at *
  have hlt := hA.b.lt
  have HA := Lib.hid (And.intro hA1 (And.intro hRf hB1))
  clear hA hA1 hO hRf hB1
  go_enter Try.func104, Try.ntmps104
  go_upto_region 2 with (fail)
  rw [← hw1, ← hr]
  have hrge : w.heap.size ≤ r := by omega
  have hrlt : r < w1.heap.size := by omega
  have hwz : w.heap.size < w1.heap.size := by omega
  clear hw1 hr hz1
  go_wp2_with (first
    | (go_at_call 61; refine (HU.out _ HA.out.2.1).mono ?_; rintro e w2 ⟨p1, n1, c1, rfl, hS1, hc, ho⟩; have hA2 := HA.out.1.only ho (fun k hk => by subst hk; exact ⟨fun h => by omega, hrq⟩); have c35 := hA2.cell 3; have f35 := hA2.b.fr 35; have hw := hA2.mono (T := fun k => S k ∨ w.heap.size ≤ k) (fun _ _ h => .inl h.1); have hp := hw.put (by rintro (h | h); exact hS0 h; omega) 3 (.slice p1 n1 c1) { st with grps := u.1 } { z with p4 := p1, n4 := n1, c4 := c1 } rfl rfl ⟨hw.i.len, hw.i.s1, hw.i.s2, hw.i.s3, hS1.mono (T := fun k => S k ∨ w.heap.size ≤ k) (fun k _ h => .inr (by omega)), hw.i.s5, hw.i.s6, hw.i.s7, hw.i.s8, hw.i.s9, hw.i.s10⟩; have ho3 : Only (· = q0) w2 (w2.setCell ⟨q0, 35, none⟩ (.slice p1 n1 c1)) := (Only.refl (fun k => k = q0) w2).setCell _ _ (.inl rfl); have H3 := Lib.hid (And.intro hp (And.intro (hc.only ho3 hrq hgq) (((Only.of_below (r := fun k => k = q0) HA.out.2.2).trans ho (fun _ h => h) (fun k hk e => by omega)).then ho3))); clear hA2 hw hp ho ho3 hc)
    | (go_at_call 63; refine (rdone_c r g s u.2.1 u.2.2 _ H3.out.2.1).mono ?_; rintro e w4 ⟨rfl, ho4⟩))
  go_ret
  exact ⟨congrArg Ending.returned (congrArg Value.bool done_eq), ⟨_, H3.out.1.only ho4 (fun _ h => h.elim), rfl, rfl, rfl, rfl, rfl, rfl, rfl, rfl, rfl⟩, H3.out.2.2.then (ho4.mono (fun _ _ h => h.elim))⟩

set_option maxHeartbeats 4000000 in
theorem rce13 (q0 : Nat) (w : World) (S : Nat → Prop) (st : Cl) (z : Z10) (gb : Nat) (p : Option Addr) (c : Nat) (s : List UInt8) (last : Bool) (hA : CB w q0 S st z) (hS0 : ¬ S q0) (hO : Own w gb (.slice p s.length c) s) (hgb : gb ≠ q0) (gx : Nat) (hgx : gx < w.heap.size) (hgx0 : gx ≠ q0) (hl : s.length ≤ 140737488355328) : Calls Try.prog 104 #[rp q0, .int .i64 13, .slice p s.length c, .bool last] w (RceN q0 S w z (rcliF st 13 s last)) := by
  have hF : rcliF st 13 s last = ({ st with schs := (rnumsS s 0 2 4).1 }, doneB (rnumsS s 0 2 4).2.1 (rnumsS s 0 2 4).2.2) := rfl
  rw [hF]
  clear hF
  obtain ⟨g, r, w1, hr, hw1, hz1, hgq, hrq, hgl, hRf, hB1, hA1⟩ := ext_new hA hO hgb gx hgx hgx0
  have HU := Lib.hid (fun wx (h : Rf wx r g s s 0) => rnumbers_c r g s s 0 2 4 wx h hl (by decide) (by decide))
  generalize rnumsS s 0 2 4 = u at *
  have hlt := hA.b.lt
  have HA := Lib.hid (And.intro hA1 (And.intro hRf hB1))
  clear hA hA1 hO hRf hB1
  go_enter Try.func104, Try.ntmps104
  go_upto_region 2 with (fail)
  rw [← hw1, ← hr]
  have hrge : w.heap.size ≤ r := by omega
  have hrlt : r < w1.heap.size := by omega
  have hwz : w.heap.size < w1.heap.size := by omega
  clear hw1 hr hz1
  go_wp2_with (first
    | (go_at_call 61; refine (HU.out _ HA.out.2.1).mono ?_; rintro e w2 ⟨p1, n1, c1, rfl, hS1, hc, ho⟩; have hA2 := HA.out.1.only ho (fun k hk => by subst hk; exact ⟨fun h => by omega, hrq⟩); have c36 := hA2.cell 4; have f36 := hA2.b.fr 36; have hw := hA2.mono (T := fun k => S k ∨ w.heap.size ≤ k) (fun _ _ h => .inl h.1); have hp := hw.put (by rintro (h | h); exact hS0 h; omega) 4 (.slice p1 n1 c1) { st with schs := u.1 } { z with p5 := p1, n5 := n1, c5 := c1 } rfl rfl ⟨hw.i.len, hw.i.s1, hw.i.s2, hw.i.s3, hw.i.s4, hS1.mono (T := fun k => S k ∨ w.heap.size ≤ k) (fun k _ h => .inr (by omega)), hw.i.s6, hw.i.s7, hw.i.s8, hw.i.s9, hw.i.s10⟩; have ho3 : Only (· = q0) w2 (w2.setCell ⟨q0, 36, none⟩ (.slice p1 n1 c1)) := (Only.refl (fun k => k = q0) w2).setCell _ _ (.inl rfl); have H3 := Lib.hid (And.intro hp (And.intro (hc.only ho3 hrq hgq) (((Only.of_below (r := fun k => k = q0) HA.out.2.2).trans ho (fun _ h => h) (fun k hk e => by omega)).then ho3))); clear hA2 hw hp ho ho3 hc)
    | (go_at_call 63; refine (rdone_c r g s u.2.1 u.2.2 _ H3.out.2.1).mono ?_; rintro e w4 ⟨rfl, ho4⟩))
  go_ret
  exact ⟨congrArg Ending.returned (congrArg Value.bool done_eq), ⟨_, H3.out.1.only ho4 (fun _ h => h.elim), rfl, rfl, rfl, rfl, rfl, rfl, rfl, rfl, rfl⟩, H3.out.2.2.then (ho4.mono (fun _ _ h => h.elim))⟩

set_option maxHeartbeats 4000000 in
theorem rce44 (q0 : Nat) (w : World) (S : Nat → Prop) (st : Cl) (z : Z10) (gb : Nat) (p : Option Addr) (c : Nat) (s : List UInt8) (last : Bool) (hA : CB w q0 S st z) (hS0 : ¬ S q0) (hO : Own w gb (.slice p s.length c) s) (hgb : gb ≠ q0) (gx : Nat) (hgx : gx < w.heap.size) (hgx0 : gx ≠ q0) (hl : s.length ≤ 140737488355328) : Calls Try.prog 104 #[rp q0, .int .i64 44, .slice p s.length c, .bool last] w (RceN q0 S w z (rcliF st 44 s last)) := by
  have hF : rcliF st 44 s last = ({ st with cook := (vecS s 0 2 1 64).1 }, doneB (vecS s 0 2 1 64).2.1 (vecS s 0 2 1 64).2.2) := rfl
  rw [hF]
  clear hF
  obtain ⟨g, r, w1, hr, hw1, hz1, hgq, hrq, hgl, hRf, hB1, hA1⟩ := ext_new hA hO hgb gx hgx hgx0
  have HU := Lib.hid (fun wx (h : Rf wx r g s s 0) => rvector_c r g s s 0 2 1 64 wx h hl)
  generalize vecS s 0 2 1 64 = u at *
  have hlt := hA.b.lt
  have HA := Lib.hid (And.intro hA1 (And.intro hRf hB1))
  clear hA hA1 hO hRf hB1
  go_enter Try.func104, Try.ntmps104
  go_upto_region 2 with (fail)
  rw [← hw1, ← hr]
  have hrge : w.heap.size ≤ r := by omega
  have hrlt : r < w1.heap.size := by omega
  have hwz : w.heap.size < w1.heap.size := by omega
  clear hw1 hr hz1
  go_wp2_with (first
    | (go_at_call 60; refine (HU.out _ HA.out.2.1).mono ?_; rintro e w2 ⟨g', p1, c1, rfl, hg', hO1, hc, ho⟩; have hA2 := HA.out.1.only ho (fun k hk => by subst hk; exact ⟨fun h => by omega, hrq⟩); have c38 := hA2.cell 6; have f38 := hA2.b.fr 38; have hw := hA2.mono (T := fun k => S k ∨ w.heap.size ≤ k) (fun _ _ h => .inl h.1); have hp := hw.put (by rintro (h | h); exact hS0 h; omega) 6 (.slice p1 u.1.length c1) { st with cook := u.1 } { z with p7 := p1, n7 := u.1.length, c7 := c1 } rfl rfl ⟨hw.i.len, hw.i.s1, hw.i.s2, hw.i.s3, hw.i.s4, hw.i.s5, hw.i.s6, SlS.of_own (S := fun k => S k ∨ w.heap.size ≤ k) hO1 rfl (.inr (by omega)), hw.i.s8, hw.i.s9, hw.i.s10⟩; have ho3 : Only (· = q0) w2 (w2.setCell ⟨q0, 38, none⟩ (.slice p1 u.1.length c1)) := (Only.refl (fun k => k = q0) w2).setCell _ _ (.inl rfl); have H3 := Lib.hid (And.intro hp (And.intro (hc.only ho3 hrq hgq) (((Only.of_below (r := fun k => k = q0) HA.out.2.2).trans ho (fun _ h => h) (fun k hk e => by omega)).then ho3))); clear hA2 hw hp ho ho3 hc)
    | (go_at_call 63; refine (rdone_c r g s u.2.1 u.2.2 _ H3.out.2.1).mono ?_; rintro e w4 ⟨rfl, ho4⟩))
  go_ret
  exact ⟨congrArg Ending.returned (congrArg Value.bool done_eq), ⟨_, H3.out.1.only ho4 (fun _ h => h.elim), rfl, rfl, rfl, rfl, rfl, rfl, rfl, rfl, rfl⟩, H3.out.2.2.then (ho4.mono (fun _ _ h => h.elim))⟩

set_option maxHeartbeats 4000000 in
theorem rce45 (q0 : Nat) (w : World) (S : Nat → Prop) (st : Cl) (z : Z10) (gb : Nat) (p : Option Addr) (c : Nat) (s : List UInt8) (last : Bool) (hA : CB w q0 S st z) (hS0 : ¬ S q0) (hO : Own w gb (.slice p s.length c) s) (hgb : gb ≠ q0) (gx : Nat) (hgx : gx < w.heap.size) (hgx0 : gx ≠ q0) (hl : s.length ≤ 140737488355328) : Calls Try.prog 104 #[rp q0, .int .i64 45, .slice p s.length c, .bool last] w (RceN q0 S w z (rcliF st 45 s last)) := by
  have hF : rcliF st 45 s last = ({ st with modes := (vecS s 0 1 1 4).1 }, doneB (vecS s 0 1 1 4).2.1 (vecS s 0 1 1 4).2.2) := rfl
  rw [hF]
  clear hF
  obtain ⟨g, r, w1, hr, hw1, hz1, hgq, hrq, hgl, hRf, hB1, hA1⟩ := ext_new hA hO hgb gx hgx hgx0
  have HU := Lib.hid (fun wx (h : Rf wx r g s s 0) => rvector_c r g s s 0 1 1 4 wx h hl)
  generalize vecS s 0 1 1 4 = u at *
  have hlt := hA.b.lt
  have HA := Lib.hid (And.intro hA1 (And.intro hRf hB1))
  clear hA hA1 hO hRf hB1
  go_enter Try.func104, Try.ntmps104
  go_upto_region 2 with (fail)
  rw [← hw1, ← hr]
  have hrge : w.heap.size ≤ r := by omega
  have hrlt : r < w1.heap.size := by omega
  have hwz : w.heap.size < w1.heap.size := by omega
  clear hw1 hr hz1
  go_wp2_with (first
    | (go_at_call 60; refine (HU.out _ HA.out.2.1).mono ?_; rintro e w2 ⟨g', p1, c1, rfl, hg', hO1, hc, ho⟩; have hA2 := HA.out.1.only ho (fun k hk => by subst hk; exact ⟨fun h => by omega, hrq⟩); have c39 := hA2.cell 7; have f39 := hA2.b.fr 39; have hw := hA2.mono (T := fun k => S k ∨ w.heap.size ≤ k) (fun _ _ h => .inl h.1); have hp := hw.put (by rintro (h | h); exact hS0 h; omega) 7 (.slice p1 u.1.length c1) { st with modes := u.1 } { z with p8 := p1, n8 := u.1.length, c8 := c1 } rfl rfl ⟨hw.i.len, hw.i.s1, hw.i.s2, hw.i.s3, hw.i.s4, hw.i.s5, hw.i.s6, hw.i.s7, SlS.of_own (S := fun k => S k ∨ w.heap.size ≤ k) hO1 rfl (.inr (by omega)), hw.i.s9, hw.i.s10⟩; have ho3 : Only (· = q0) w2 (w2.setCell ⟨q0, 39, none⟩ (.slice p1 u.1.length c1)) := (Only.refl (fun k => k = q0) w2).setCell _ _ (.inl rfl); have H3 := Lib.hid (And.intro hp (And.intro (hc.only ho3 hrq hgq) (((Only.of_below (r := fun k => k = q0) HA.out.2.2).trans ho (fun _ h => h) (fun k hk e => by omega)).then ho3))); clear hA2 hw hp ho ho3 hc)
    | (go_at_call 63; refine (rdone_c r g s u.2.1 u.2.2 _ H3.out.2.1).mono ?_; rintro e w4 ⟨rfl, ho4⟩))
  go_ret
  exact ⟨congrArg Ending.returned (congrArg Value.bool done_eq), ⟨_, H3.out.1.only ho4 (fun _ h => h.elim), rfl, rfl, rfl, rfl, rfl, rfl, rfl, rfl, rfl⟩, H3.out.2.2.then (ho4.mono (fun _ _ h => h.elim))⟩

set_option maxHeartbeats 4000000 in
theorem rceOther (q0 : Nat) (w : World) (S : Nat → Prop) (st : Cl) (z : Z10) (gb : Nat) (p : Option Addr) (c : Nat) (s : List UInt8) (last : Bool) (hA : CB w q0 S st z) (hS0 : ¬ S q0) (hO : Own w gb (.slice p s.length c) s) (hgb : gb ≠ q0) (gx : Nat) (hgx : gx < w.heap.size) (hgx0 : gx ≠ q0) (hl : s.length ≤ 140737488355328) (kind : Int) (h1 : kind ≠ 43) (h2 : kind ≠ 10) (h3 : kind ≠ 13) (h4 : kind ≠ 51) (h5 : kind ≠ 44) (h6 : kind ≠ 45) (h7 : kind ≠ 41) : Calls Try.prog 104 #[rp q0, .int .i64 kind, .slice p s.length c, .bool last] w (RceN q0 S w z (rcliF st kind s last)) := by
  have hF : rcliF st kind s last = (st, true) := by unfold rcliF; rw [if_neg h1, if_neg h2, if_neg h3, if_neg h5, if_neg h6, if_neg h4, if_neg h7]
  rw [hF]
  have b1 : (kind == 43) = false := by simpa using h1
  have b2 : (kind == 10) = false := by simpa using h2
  have b3 : (kind == 13) = false := by simpa using h3
  have b4 : (kind == 51) = false := by simpa using h4
  have b5 : (kind == 44) = false := by simpa using h5
  have b6 : (kind == 45) = false := by simpa using h6
  have b7 : (kind == 41) = false := by simpa using h7
  obtain ⟨g, r, w1, hr, hw1, hz1, hgq, hrq, hgl, hRf, hB1, hA1⟩ := ext_new hA hO hgb gx hgx hgx0
  have HA := Lib.hid (And.intro hA1 (And.intro hRf hB1))
  clear hA hA1 hO hRf hB1 hF h1 h2 h3 h4 h5 h6 h7
  go_enter Try.func104, Try.ntmps104
  go_upto_region 2 with (fail)
  rw [← hw1, ← hr]
  have hrge : w.heap.size ≤ r := by omega
  have hrlt : r < w1.heap.size := by omega
  have hwz : w.heap.size < w1.heap.size := by omega
  clear hw1 hr hz1
  go_wp2
  go_ret
  exact ⟨rfl, ⟨_, HA.out.1.mono (fun _ _ h => .inl h.1), rfl, rfl, rfl, rfl, rfl, rfl, rfl, rfl, rfl⟩, Only.of_below HA.out.2.2⟩
end Go.Proofs.Ytegmimnhkohaoaa
/-
  Lists that are read into a slice of a struct in memory, by the document's Reader. No condition but those that each theorem states.
-/
namespace Go.Proofs.Ytegmimnhkohaoaa
open Go.RowKit Go.Kx
set_option linter.unusedVariables false
set_option linter.unusedSimpArgs false

/-- A slice of block q0 is the call's own; its elements are A; all that it has lies in blocks from M on. -/
def HeldC {α : Type} (P : World → (Nat → Prop) → List Value → List α → Prop) (U : Option Addr → Nat → Nat → Array Value) (w : World) (q0 T e sz M : Nat) (A : List α) : Prop :=
  ∃ p c g L, Blk w q0 T (U p A.length c) ∧ Row w e sz g (.slice p A.length c) A.length L ∧ M ≤ g ∧ P w (fun k => M ≤ k ∧ k ≠ g) L A ∧ (A.length = 0 → p = none ∧ c = 0)
section
variable {α : Type} {P : World → (Nat → Prop) → List Value → List α → Prop} {U : Option Addr → Nat → Nat → Array Value} {w w' wr w1 w5 : World} {q0 T e sz M N ra g2 g3 off : Nat} {A : List α}
theorem HeldC.only {q : Nat → Prop} (K : RowK P) (h : HeldC P U w q0 T e sz M A) (ho : Only q w w') (h1 : ¬ q q0) (h2 : ∀ k, M ≤ k → k < w.heap.size → ¬ q k) : HeldC P U w' q0 T e sz M A := by
  obtain ⟨p, c, g, L, h3, h4, h5, h6, h7⟩ := h
  refine ⟨p, c, g, L, h3.only ho h1, h4.kept (fun hg => ho.block g hg (h2 g h5 hg)), h5, ?_, h7⟩
  exact K.mono (K.only (K.mono h6 (T := fun k => (M ≤ k ∧ k ≠ g) ∧ k < w.heap.size) (fun k hk h => ⟨h, hk⟩)) ho (fun k hk => h2 k hk.1.1 hk.2)) (fun k _ h => h.1)
theorem HeldC.nil (K : RowK P) (h : Blk w q0 T (U none 0 0)) : HeldC P U w q0 T e sz M [] := ⟨none, 0, M, [], h, Row.nil _ _ _ _, Nat.le_refl _, K.nil _ _, fun _ => ⟨rfl, rfl⟩⟩
/-- The slice ahead of a round, and what becomes of it while a Reader reads. -/
theorem HeldC.parts (K : RowK P) (h : HeldC P U wr q0 T e sz M A) (hbc : q0 < M) (hra : ra < M) (hbr : q0 ≠ ra) : ∃ p c, Blk wr q0 T (U p A.length c) ∧ ∀ w1, Only (· = ra) wr w1 → ∃ g3 L, Blk w1 q0 T (U p A.length c) ∧ Row w1 e sz g3 (.slice p A.length c) A.length L ∧ P w1 (fun k => M ≤ k ∧ k ≠ g3 ∧ k < wr.heap.size) L A ∧ M ≤ g3 ∧ (g3 < wr.heap.size ∨ g3 = w1.heap.size + M) := by
  obtain ⟨p, c, g, L, h3, h4, h5, h6, h7⟩ := h
  refine ⟨p, c, h3, fun w1 ho => ?_⟩
  have h3' := h3.only ho hbr
  by_cases h0 : A.length = 0
  · obtain ⟨rfl, rfl⟩ := h7 h0
    have hA : A = [] := List.length_eq_zero_iff.1 h0
    subst hA
    exact ⟨w1.heap.size + M, [], h3', Row.nil _ _ _ _, K.nil _ _, by omega, .inr rfl⟩
  · obtain ⟨_, _, _, hf, _⟩ := Row.form h4
    have hlt := (hf (by omega)).2
    exact ⟨g, L, h3', h4.only ho (by omega), K.only (K.mono h6 (fun k hk hh => ⟨hh.1, hh.2, hk⟩)) ho (by intro k hk e; omega), h5, .inl hlt⟩
/-- One element more. -/
theorem HeldC.step (K : RowK P) {L vs : List Value} {a : α} {p0 p5 : Option Addr} {n0 c0 k5 : Nat} (hU : (U p0 n0 c0).setIfInBounds off (.slice p5 (A.length + 1) k5) = U p5 (A.length + 1) k5) (hP : P w1 (fun k => M ≤ k ∧ k ≠ g3 ∧ k < wr.heap.size) L A) (hM3 : M ≤ g3) (hg3 : g3 < wr.heap.size ∨ g3 = w1.heap.size + M) (hz : wr.heap.size ≤ w1.heap.size) (hM1 : M ≤ wr.heap.size)
    (hV5 : Blk w5 q0 T (U p0 n0 c0)) (hrow : Row w5 e sz g2 (.slice p5 (A.length + 1) k5) (A.length + 1) (L ++ vs)) (hg2 : g2 = g3 ∨ g2 = w1.heap.size + 1) (hO : Only (· = g3) w1 w5) (hbc : q0 < M)
    (hpush : ∀ (S : Nat → Prop) w', (∀ k, wr.heap.size ≤ k → k < w1.heap.size → S k) → Only (fun k => k = g3 ∨ k = q0) w1 w' → P w' S L A → P w' S (L ++ vs) (A ++ [a])) :
    HeldC P U (w5.setCell ⟨q0, off, none⟩ (.slice p5 (A.length + 1) k5)) q0 T e sz M (A ++ [a]) := by
  have hO6 : Only (fun k => k = q0) w5 (w5.setCell ⟨q0, off, none⟩ (.slice p5 (A.length + 1) k5)) := (Only.refl _ _).setCell _ _ (.inl rfl)
  have hO16 : Only (fun k => k = g3 ∨ k = q0) w1 (w5.setCell ⟨q0, off, none⟩ (.slice p5 (A.length + 1) k5)) := (hO.mono (fun _ _ h => .inl h)).then (hO6.mono (fun _ _ h => .inr h))
  have hx5 : Blk (w5.setCell ⟨q0, off, none⟩ (.slice p5 (A.length + 1) k5)) q0 T (U p5 (A.length + 1) k5) := by
    rw [← hU]
    unfold Blk at *
    simp [World.setCell, Array.getElem?_modify, hV5]
  have hlen : (A ++ [a]).length = A.length + 1 := by simp
  refine ⟨p5, k5, g2, L ++ vs, by rw [hlen]; exact hx5, by rw [hlen]; exact hrow.only hO6 (by omega), by omega, ?_, by intro h; omega⟩
  refine hpush _ _ (fun k h1 h2 => ⟨by omega, by omega⟩) hO16 ?_
  exact K.mono (K.only hP hO16 (by intro k hk e; omega)) (fun k _ hk => ⟨hk.1, fun e => by have h2 := hk.2.1; have h3 := hk.2.2; omega⟩)
end
theorem clV_setIf {s : Cl} {z z' : Z10} (hl : s.R.length = 32) (k : Nat) (v : Value) (hL : (clL z).set k v = clL z') : (clV s z).setIfInBounds (32 + k) v = clV s z' := by
  unfold clV
  rw [← hL, List.setIfInBounds_toArray]
  congr 1
  rw [List.set_append, if_neg (by simp [hl])]
  simp [hl]

/-- What a loop over shares keeps: the Client's block with its shares; its other slices; the inner Reader, the outer one. -/
structure KJ (w3 : World) (q0 r2 g2 r g M : Nat) (S : Nat → Prop) (st : Cl) (z : Z10) (B b s1 : List UInt8) (b1 : Int) (A : List (Int × List UInt8)) (s : List UInt8) (bad : Int) (wx : World) : Prop where
  held : HeldC ShL (fun p n c => clV st (z.u6 p n c)) wx q0 48 25 2 M A
  i : IsCl wx S st z
  inn : Rf wx r2 g2 B s bad
  out : Rf wx r g b s1 b1
  ho : Only (fun k => k = r2 ∨ k = q0) w3 wx
end Go.Proofs.Ytegmimnhkohaoaa
