/-
  The contracts of Uint and Vector of cursor.Reader. Conditions: at most 2 to the 47th bytes.
-/
import Derived.Test.YtegmimnhkohaoaaCurB
namespace Go.Proofs.Ytegmimnhkohaoaa
open Go.RowKit Go.Kx

/-- The number that bytes tell, the greatest first. -/
def beN (l : List UInt8) : Nat := l.foldl (fun n b => n * 256 + b.toNat) 0
theorem beN_snoc (l : List UInt8) (b : UInt8) : beN (l ++ [b]) = beN l * 256 + b.toNat := by simp [beN]
theorem foldl_be (l : List UInt8) (k : Nat) : l.foldl (fun n b => n * 256 + b.toNat) k + 1 ≤ (k + 1) * 256 ^ l.length := by
  induction l generalizing k with
  | nil => simp
  | cons b l ih =>
    have h1 := ih (k * 256 + b.toNat)
    have h2 := b.toNat_lt
    have h3 : (k * 256 + b.toNat + 1) * 256 ^ l.length ≤ ((k + 1) * 256) * 256 ^ l.length := Nat.mul_le_mul_right _ (by omega)
    rw [List.foldl_cons, List.length_cons, Nat.pow_succ, Nat.mul_comm (256 ^ l.length) 256, ← Nat.mul_assoc]
    omega
theorem beN_lt (l : List UInt8) : beN l < 256 ^ l.length := by have := foldl_be l 0; simp only [beN]; omega
theorem beN_small (l : List UInt8) (h : l.length ≤ 4) : beN l < 4294967296 := by
  have h1 := beN_lt l
  have h2 : 256 ^ l.length ≤ 256 ^ 4 := Nat.pow_le_pow_right (by decide) h
  omega
/-- The error behind a look at the width. -/
def wb (bad width : Int) : Int := if 1 ≤ width ∧ width ≤ 4 then bad else rm bad 3
theorem badS_ne {s : List UInt8} {bad n : Int} (h : bad ≠ 0) : badS s bad n ≠ 0 := by unfold badS rm; split <;> (try split) <;> simp_all
theorem out_four (s : List UInt8) (bad width : Int) : (outS s (wb bad width) width).length ≤ 4 := by
  unfold outS
  split
  · rename_i h
    by_cases hw : 1 ≤ width ∧ width ≤ 4
    · simp; omega
    · exact absurd h (badS_ne (by unfold wb; rw [if_neg hw]; unfold rm; split <;> simp_all))
  · simp

def UintR (w : World) (r g : Nat) (s : List UInt8) (bad width : Int) (e : Ending) (w' : World) : Prop :=
  e = .returned (.int .i64 (beN (outS s (wb bad width) width) : Nat)) ∧ Cur w' r g (leftS s (wb bad width) width) (badS s (wb bad width) width) ∧ Only (· = r) w w'

theorem uint_nil (width : Int) (w : World) : Calls Try.prog 46 #[.pointer none, .int .i64 width] w fun e w' => e = .returned (.int .i64 0) ∧ w = w' := by
  go_enter Try.func46, Try.ntmps46
  go_wp2_with (first | (go_at_call 77; refine (take_nil _ _).mono ?_; rintro e w' ⟨rfl, rfl⟩))
  go_ret
  exact ⟨rfl, rfl⟩

/-- One round of Uint: so many bytes are in the number. -/
def URel (wa : World) (l : List UInt8) (v7 v29 : Value) (wr : World) : Prop := ∃ i : Nat, v29 = .int .i64 (i : Int) ∧ v7 = .int .i64 (beN (l.take i) : Nat) ∧ i ≤ l.length ∧ ∃ k, wr = wa.drewN k

theorem uint_c (r g : Nat) (s : List UInt8) (bad width : Int) (w : World) (hr : Cur w r g s bad) :
    Calls Try.prog 46 #[rp r, .int .i64 width] w (UintR w r g s bad width) := by
  by_cases hw : 1 ≤ width ∧ width ≤ 4
  · have hwb : wb bad width = bad := if_pos hw
    have h4 := out_four s bad width
    rw [hwb] at h4
    unfold UintR
    rw [hwb]
    by_cases hok : badS s bad width = 0
    · have hkd : decide (badS s bad width = 0) = true := decide_eq_true hok
      go_enter Try.func46, Try.ntmps46
      go_wp2_with (first
        | (go_at_call 79; refine (right_c width _).mono ?_; rintro e w' ⟨rfl, rfl⟩)
        | (go_at_call 77; refine (take_c r g s bad width _ hr).mono ?_; rintro e w' ⟨p, c, rfl, hp, hR, hc, ho⟩))
      have HC := Lib.hid hc
      have HO := Lib.hid ho
      have HOK := Lib.hid hok
      generalize hL : outS s bad width = l at *
      have HL := Lib.hid hL
      clear hc ho hok hL
      go_loopw [7, 29] (fun v7 v29 wr => URel w' l v7 v29 wr) (fun _ v29 _ => l.length - (intOf v29).toNat)
      case atStart => exact ⟨0, rfl, rfl, by omega, 0, rfl⟩
      case round =>
        obtain ⟨i, rfl, rfl, hi, k, rfl⟩ := hrel
        have hbl := beN_small (l.take i) (by rw [List.length_take]; omega)
        by_cases hlt : i < l.length
        · obtain ⟨b, o, rfl, rfl, _, hat⟩ := hR.at (by omega)
          have d0 := hat i hlt
          clear hat
          generalize hxe : l[i] = x at d0
          have hx := x.toNat_lt
          have HX := Lib.hid hxe
          clear hxe
          generalize hm : beN (l.take i) = m at *
          have HM := Lib.hid hm
          clear hm
          go_wp2
          rw [or_i64 m x.toNat (by omega) (by omega)]
          refine ⟨⟨i + 1, by simp, ?_, by omega, by first | exact ⟨k, rfl⟩ | exact ⟨k + 1, rfl⟩ | exact ⟨_, rfl⟩⟩, by simp [intOf]; omega⟩
          rw [List.take_succ_eq_append_getElem hlt, beN_snoc, HM.out, HX.out]
        · have hil : i = l.length := by omega
          subst hil
          rw [List.take_length] at hbl ⊢
          go_wp2
          go_ret
          rw [HL.out]
          exact ⟨rfl, HC.out.only (Only.drewN _ (Only.refl (fun _ => False) _)) (fun h => h) (fun h => h), Only.drewN _ HO.out⟩
    · have hkd : decide (badS s bad width = 0) = false := decide_eq_false hok
      have hout : outS s bad width = [] := by unfold outS; rw [if_neg hok]
      go_enter Try.func46, Try.ntmps46
      go_wp2_with (first
        | (go_at_call 79; refine (right_c width _).mono ?_; rintro e w' ⟨rfl, rfl⟩)
        | (go_at_call 77; refine (take_c r g s bad width _ hr).mono ?_; rintro e w' ⟨p, c, rfl, hp, hR, hc, ho⟩))
      go_ret
      rw [hout]
      exact ⟨rfl, hc, ho⟩
  · have hwb : wb bad width = rm bad 3 := if_neg hw
    have h3 : rm bad 3 ≠ 0 := by unfold rm; split <;> simp_all
    have hok : badS s (rm bad 3) width ≠ 0 := badS_ne h3
    unfold UintR
    rw [hwb]
    have hkd : decide (badS s (rm bad 3) width = 0) = false := decide_eq_false hok
    have hout : outS s (rm bad 3) width = [] := by unfold outS; rw [if_neg hok]
    go_enter Try.func46, Try.ntmps46
    go_wp2_with (first
      | (go_at_call 79; refine (right_c width _).mono ?_; rintro e w' ⟨rfl, rfl⟩)
      | (go_at_call 78; refine (wrong_c r g s bad 3 _ hr).mono ?_; rintro e w1 ⟨rfl, hc1, ho1⟩)
      | (go_at_call 77; refine (take_c r g s (rm bad 3) width _ hc1).mono ?_; rintro e w' ⟨p, c, rfl, hp, hR, hc, ho⟩))
    go_ret
    rw [hout]
    exact ⟨rfl, hc, ho1.then ho⟩

/-! ### Vector -/
/-- What Vector tells: the bytes, what is left, the error. -/
def vecS (s : List UInt8) (bad width least most : Int) : List UInt8 × List UInt8 × Int :=
  let out := outS s (wb bad width) width
  let s1 := leftS s (wb bad width) width
  let b1 := badS s (wb bad width) width
  let n : Int := (beN out : Nat)
  if badS s1 b1 n = 0 ∧ (n < least ∨ most < n) then ([], leftS s1 b1 n, 3) else (outS s1 b1 n, leftS s1 b1 n, badS s1 b1 n)

theorem vector_nil (a b c : Int) (w : World) : Calls Try.prog 45 #[.pointer none, .int .i64 a, .int .i64 b, .int .i64 c] w fun e w' => e = .returned (.slice none 0 0) ∧ w = w' := by
  go_enter Try.func45, Try.ntmps45
  go_wp2_with (first | (go_at_call 46; refine (uint_nil _ _).mono ?_; rintro e w' ⟨rfl, rfl⟩) | (go_at_call 77; refine (take_nil _ _).mono ?_; rintro e w' ⟨rfl, rfl⟩) | (go_at_call 76; refine (clone_nil _).mono ?_; rintro e w' ⟨rfl, rfl⟩))
  go_ret
  exact ⟨rfl, rfl⟩

theorem vector_c (r g : Nat) (s : List UInt8) (bad width least most : Int) (w : World) (hr : Cur w r g s bad) (hl : s.length ≤ 140737488355328) :
    Calls Try.prog 45 #[rp r, .int .i64 width, .int .i64 least, .int .i64 most] w (ToldR w r g (vecS s bad width least most).1 (vecS s bad width least most).2.1 (vecS s bad width least most).2.2) := by
  obtain ⟨out, hout⟩ : ∃ out, out = outS s (wb bad width) width := ⟨_, rfl⟩
  obtain ⟨s1, hs1⟩ : ∃ s1, s1 = leftS s (wb bad width) width := ⟨_, rfl⟩
  obtain ⟨b1, hb1⟩ : ∃ b1, b1 = badS s (wb bad width) width := ⟨_, rfl⟩
  obtain ⟨n, hn⟩ : ∃ n, n = beN out := ⟨_, rfl⟩
  have hs1l : s1.length ≤ s.length := by rw [hs1]; exact leftS_le _ _ _
  have hvec : vecS s bad width least most = if badS s1 b1 (n : Int) = 0 ∧ ((n : Int) < least ∨ most < (n : Int)) then ([], leftS s1 b1 (n : Int), 3) else (outS s1 b1 (n : Int), leftS s1 b1 (n : Int), badS s1 b1 (n : Int)) := by
    unfold vecS; rw [hn, hout, hs1, hb1]
  have hlo := outS_le s1 b1 (n : Int)
  have hlt := hr.lt
  have hgt := hr.glt
  have HV := Lib.hid hvec
  have HR := Lib.hid hr
  have HU : ∀ wx, Cur wx r g s bad → Calls Try.prog 46 #[rp r, .int .i64 width] wx (fun e w' => e = .returned (.int .i64 (n : Int)) ∧ Cur w' r g s1 b1 ∧ Only (· = r) wx w') := by
    intro wx h
    refine (uint_c r g s bad width wx h).mono ?_
    rintro e w' ⟨h1, h2, h3⟩
    rw [hn, hout, hs1, hb1]
    exact ⟨h1, h2, h3⟩
  clear hvec hr hn hout hs1 hb1
  by_cases hok : badS s1 b1 (n : Int) = 0
  · have hkd : decide (badS s1 b1 (n : Int) = 0) = true := decide_eq_true hok
    by_cases hlm : (n : Int) < least ∨ most < (n : Int)
    · have hv : vecS s bad width least most = ([], leftS s1 b1 (n : Int), 3) := by rw [HV.out, if_pos ⟨hok, hlm⟩]
      have HV2 := Lib.hid hv
      clear hv
      go_enter Try.func45, Try.ntmps45
      go_wp2_with (first
        | (go_at_call 46; refine (HU _ HR.out).mono ?_; rintro e wu ⟨rfl, hcu, hou⟩)
        | (go_at_call 77; refine (take_c r g s1 b1 (n : Int) _ hcu).mono ?_; rintro e w' ⟨p, c, rfl, hp, hR, hc, ho⟩; rw [hok] at hc)
        | (go_at_call 78; refine (wrong_c r g _ 0 3 _ hc).mono ?_; rintro e w3 ⟨rfl, hc3, ho3⟩))
      all_goals go_ret
      all_goals (rw [HV2.out]; exact ⟨w3.heap.size, none, 0, rfl, Nat.le_trans hou.size (Nat.le_trans ho.size ho3.size), Own.nil _ _, hc3, (hou.then ho).then ho3⟩)
    · have hv : vecS s bad width least most = (outS s1 b1 (n : Int), leftS s1 b1 (n : Int), badS s1 b1 (n : Int)) := by rw [HV.out, if_neg (fun h => hlm h.2)]
      have HV2 := Lib.hid hv
      clear hv
      have hl1 : ¬ (n : Int) < least := by omega
      have hl2 : ¬ most < (n : Int) := by omega
      go_enter Try.func45, Try.ntmps45
      go_wp2_with (first
        | (go_at_call 46; refine (HU _ HR.out).mono ?_; rintro e wu ⟨rfl, hcu, hou⟩)
        | (go_at_call 77; refine (take_c r g s1 b1 (n : Int) _ hcu).mono ?_; rintro e w' ⟨p, c, rfl, hp, hR, hc, ho⟩)
        | (go_at_call 76; refine (clone_any (· = g) _ _ _ (outS s1 b1 (n : Int)) _ hR hp (by omega) rfl).mono ?_; rintro e w2 ⟨⟨g', p', c', rfl, h1, h2, h3, h4⟩, h5⟩))
      all_goals go_ret
      all_goals (rw [HV2.out]; exact ⟨g', p', c', rfl, Nat.le_trans hou.size (Nat.le_trans ho.size h1), h3, hc.only (.of_below h4 (r := fun _ => False)) (fun h => h) (fun h => h), (hou.then ho).then (.of_below h4)⟩)
  · have hkd : decide (badS s1 b1 (n : Int) = 0) = false := decide_eq_false hok
    have hv : vecS s bad width least most = (outS s1 b1 (n : Int), leftS s1 b1 (n : Int), badS s1 b1 (n : Int)) := by rw [HV.out, if_neg (fun h => hok h.1)]
    have HV2 := Lib.hid hv
    clear hv
    go_enter Try.func45, Try.ntmps45
    go_wp2_with (first
      | (go_at_call 46; refine (HU _ HR.out).mono ?_; rintro e wu ⟨rfl, hcu, hou⟩)
      | (go_at_call 77; refine (take_c r g s1 b1 (n : Int) _ hcu).mono ?_; rintro e w' ⟨p, c, rfl, hp, hR, hc, ho⟩)
      | (go_at_call 76; refine (clone_any (· = g) _ _ _ (outS s1 b1 (n : Int)) _ hR hp (by omega) rfl).mono ?_; rintro e w2 ⟨⟨g', p', c', rfl, h1, h2, h3, h4⟩, h5⟩))
    all_goals go_ret
    all_goals (rw [HV2.out]; exact ⟨g', p', c', rfl, Nat.le_trans hou.size (Nat.le_trans ho.size h1), h3, hc.only (.of_below h4 (r := fun _ => False)) (fun h => h) (fun h => h), (hou.then ho).then (.of_below h4)⟩)
end Go.Proofs.Ytegmimnhkohaoaa
