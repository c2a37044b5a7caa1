/-
  The contracts of New, Left, Done, Fail, Wrong and Bytes of cursor.Reader. Conditions: at most 2 to the 47th bytes.
-/
import Derived.Test.YtegmimnhkohaoaaCurA
namespace Go.Proofs.Ytegmimnhkohaoaa
open Go.RowKit Go.Kx

def NewR (w : World) (l : List UInt8) (e : Ending) (w' : World) : Prop := ∃ r g, e = .returned (rp r) ∧ w.heap.size ≤ r ∧ r < w'.heap.size ∧ w.heap.size ≤ g ∧ Cur w' r g l 0 ∧ Below w.heap.size w w'

theorem new_c (S : Nat → Prop) (p : Option Addr) (n c : Nat) (l : List UInt8) (w : World) (hn : Rd w S p l) (hp : p = none → c = 0) (hl : l.length ≤ 140737488355328) (hnl : l.length = n) :
    Calls Try.prog 42 #[.slice p n c] w (NewR w l) := by
  go_enter Try.func42, Try.ntmps42
  go_wp2_with (go_at_call 76; refine (clone_any S _ _ _ l _ hn hp hl hnl).mono ?_; rintro e w' ⟨⟨g', p', c', rfl, h1, h2, h3, h4⟩, h5⟩)
  go_ret
  have hlr := hnl
  subst hnl
  have ho : Only (fun _ => False) w' (w'.alloc (.cells #[.slice p' l.length c', .int .i64 0] 125)) := (Only.refl _ _).alloc _
  have hR := h3.rd
  obtain ⟨p1, c1, he, e1, e2, e3, e4, e5⟩ := h3.form
  cases he
  cases p' with
  | none =>
    have h0 := hR.none_nil
    subst h0
    refine ⟨w'.heap.size, w'.heap.size, rfl, h4.size, by simp, h4.size, ⟨by simp, none, c', Box2.new _ _ _ _, Rd.nil _ _ _, e1, e2, e4, by simp⟩, h4.alloc h4.size _⟩
  | some a =>
    obtain ⟨rfl, hgl⟩ := e5 a rfl
    refine ⟨w'.heap.size, g', rfl, h4.size, by simp, h1, ⟨by simp; omega, _, c', Box2.new _ _ _ _, hR.only ho (fun _ _ h => h), e1, e2, e4, ?_⟩, h4.alloc h4.size _⟩
    intro a ha
    cases ha
    exact ⟨rfl, rfl, by omega⟩

theorem left_nil (w : World) : Calls Try.prog 82 #[.pointer none] w fun e w' => e = .returned (.int .i64 0) ∧ w = w' := by
  go_enter Try.func82, Try.ntmps82
  go_wp2
  go_ret
  exact ⟨rfl, rfl⟩

theorem left_c (r g : Nat) (s : List UInt8) (bad : Int) (w : World) (hr : Cur w r g s bad) :
    Calls Try.prog 82 #[rp r] w fun e w' => e = .returned (.int .i64 (s.length : Int)) ∧ w = w' := by
  obtain ⟨hlt, p, c, hb, _⟩ := id hr
  have c0 := hb.c0
  go_enter Try.func82, Try.ntmps82
  go_wp2
  go_ret
  exact ⟨rfl, rfl⟩

theorem done_nil (w : World) : Calls Try.prog 50 #[.pointer none] w fun e w' => e = .returned (.int .i64 1) ∧ w = w' := by
  go_enter Try.func50, Try.ntmps50
  go_wp2
  go_ret
  exact ⟨rfl, rfl⟩

def doneS (s : List UInt8) (bad : Int) : Int := if bad = 0 then (if s = [] then 0 else 3) else bad

theorem done_c (r g : Nat) (s : List UInt8) (bad : Int) (w : World) (hr : Cur w r g s bad) :
    Calls Try.prog 50 #[rp r] w fun e w' => e = .returned (.int .i64 (doneS s bad)) ∧ w = w' := by
  obtain ⟨hlt, p, c, hb, _⟩ := id hr
  have c0 := hb.c0
  have c1 := hb.c1
  by_cases h : bad = 0
  · subst h
    cases s with
    | nil =>
      go_enter Try.func50, Try.ntmps50
      go_wp2
      go_ret
      exact ⟨rfl, rfl⟩
    | cons a t =>
      have h0 : 0 < (a :: t).length := by simp
      generalize hL : (a :: t).length = L at *
      go_enter Try.func50, Try.ntmps50
      go_wp2
      go_ret
      exact ⟨rfl, rfl⟩
  · have hi : (bad != 0) = true := by simpa using h
    go_enter Try.func50, Try.ntmps50
    go_wp2
    go_ret
    exact ⟨by simp [doneS, h], rfl⟩

theorem fail_nil (w : World) : Calls Try.prog 49 #[.pointer none] w fun e w' => e = .returned ret0 ∧ w = w' := by
  go_enter Try.func49, Try.ntmps49
  go_wp2
  go_end0
  exact ⟨rfl, rfl⟩

def FailR (w : World) (r g : Nat) (s : List UInt8) (bad : Int) (e : Ending) (w' : World) : Prop := e = .returned ret0 ∧ Cur w' r g s (rm bad 3) ∧ Only (· = r) w w'

theorem fail_c (r g : Nat) (s : List UInt8) (bad : Int) (w : World) (hr : Cur w r g s bad) :
    Calls Try.prog 49 #[rp r] w (FailR w r g s bad) := by
  go_enter Try.func49, Try.ntmps49
  go_wp2_with (go_at_call 78; refine (wrong_c r g s bad 3 _ hr).mono ?_; rintro e w' ⟨rfl, hc, ho⟩)
  go_end0
  exact ⟨rfl, hc, ho⟩

theorem isWrong_nil (w : World) : Calls Try.prog 83 #[.pointer none] w fun e w' => e = .returned (.bool true) ∧ w = w' := by
  go_enter Try.func83, Try.ntmps83
  go_wp2
  go_ret
  exact ⟨rfl, rfl⟩

theorem isWrong_c (r g : Nat) (s : List UInt8) (bad : Int) (w : World) (hr : Cur w r g s bad) :
    Calls Try.prog 83 #[rp r] w fun e w' => e = .returned (.bool (decide (bad ≠ 0))) ∧ w = w' := by
  obtain ⟨hlt, p, c, hb, _⟩ := id hr
  have c1 := hb.c1
  go_enter Try.func83, Try.ntmps83
  go_wp2
  all_goals go_ret
  refine ⟨congrArg Ending.returned (congrArg Value.bool ?_), rfl⟩
  simp [bne, BEq.beq]

theorem bytes_nil (n : Value) (w : World) : Calls Try.prog 44 #[.pointer none, n] w fun e w' => e = .returned (.slice none 0 0) ∧ w = w' := by
  go_enter Try.func44, Try.ntmps44
  go_wp2_with (first | (go_at_call 77; refine (take_nil n _).mono ?_; rintro e w' ⟨rfl, rfl⟩) | (go_at_call 76; refine (clone_nil _).mono ?_; rintro e w' ⟨rfl, rfl⟩))
  go_ret
  exact ⟨rfl, rfl⟩

/-- Bytes that are told (nil, or a new row), and the Reader behind it. -/
def ToldR (w : World) (r g : Nat) (out left : List UInt8) (bad : Int) (e : Ending) (w' : World) : Prop :=
  ∃ g' p c, e = .returned (.slice p out.length c) ∧ w.heap.size ≤ g' ∧ Own w' g' (.slice p out.length c) out ∧ Cur w' r g left bad ∧ Only (· = r) w w'

theorem outS_le (s : List UInt8) (bad n : Int) : (outS s bad n).length ≤ s.length := by unfold outS; split <;> simp; omega
theorem leftS_le (s : List UInt8) (bad n : Int) : (leftS s bad n).length ≤ s.length := by unfold leftS; split <;> simp

theorem bytes_c (r g : Nat) (s : List UInt8) (bad n : Int) (w : World) (hr : Cur w r g s bad) (hl : s.length ≤ 140737488355328) :
    Calls Try.prog 44 #[rp r, .int .i64 n] w (ToldR w r g (outS s bad n) (leftS s bad n) (badS s bad n)) := by
  have hlo := outS_le s bad n
  have hlt := hr.lt
  have hgt := hr.glt
  go_enter Try.func44, Try.ntmps44
  go_wp2_with (first
    | (go_at_call 77; refine (take_c r g s bad n _ hr).mono ?_; rintro e w' ⟨p, c, rfl, hp, hR, hc, ho⟩)
    | (go_at_call 76; refine (clone_any (· = g) _ _ _ (outS s bad n) _ hR hp (by omega) rfl).mono ?_; rintro e w2 ⟨⟨g', p', c', rfl, h1, h2, h3, h4⟩, h5⟩))
  go_ret
  have hsz := ho.size
  exact ⟨g', p', c', rfl, by omega, h3, hc.only (.of_below h4 (r := fun _ => False)) (fun h => h) (fun h => h), ho.then (.of_below h4)⟩
end Go.Proofs.Ytegmimnhkohaoaa
