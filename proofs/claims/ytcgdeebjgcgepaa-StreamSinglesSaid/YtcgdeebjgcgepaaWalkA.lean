/-
  The contracts of bytes.Clone, of began, of most, and of Take where it tells an error or too few bytes. Conditions: at most 2 to the 47th bytes.
-/
import Derived.Test.YtcgdeebjgcgepaaRows
import Derived.Test.YtcgdeebjgcgepaaSpec
namespace Go.Proofs.Ytcgdeebjgcgepaa
open Go.RowKit Go.Kx

theorem Try.info5 : (Try.prog.info? 5).map (fun i => (i.zero, i.size, i.bytes)) = some (some (.int .u8 0), 1, 1) := by kernel_rfl

/-- What Clone of a slice that is not nil leaves: a new row. -/
def CloneR (w : World) (n : Nat) (l : List UInt8) (e : Ending) (w' : World) : Prop := ∃ g c', e = .returned (.slice (some ⟨g, 0, none⟩) n c') ∧ w.heap.size ≤ g ∧ g < w'.heap.size ∧ n ≤ c' ∧ c' ≤ maxLen ∧ Own w' g (.slice (some ⟨g, 0, none⟩) n c') l ∧ Below w.heap.size w w'

theorem q22 : ∀ (w : World) (a : Option Addr) (n c n' c' : Nat), (binOp .eql 22 (.slice a n c) (.slice none n' c')).run Try.prog w = .ok (.bool a.isNone) w := fun w a n c n' c' => Lib.run_eql_slice_nil w _ _ a n c n' c' Try.underlying22

theorem clone_nil (w : World) : Calls Try.prog 14 #[.slice none 0 0] w fun e w' => e = .returned (.slice none 0 0) ∧ w = w' := by
  have q := q22
  go_enter Try.func14, Try.ntmps14
  go_wp2
  go_ret
  exact ⟨rfl, rfl⟩

theorem clone_c (S : Nat → Prop) (a : Addr) (n c : Nat) (l : List UInt8) (w : World) (hn : Rd w S (some a) l) (hl : l.length ≤ 140737488355328) (hnl : l.length = n) :
    Calls Try.prog 14 #[.slice (some a) n c] w (CloneR w n l) := by
  subst hnl
  have q := q22
  have ho := Own.new w
  have hn' := Rd.below hn ((Below.refl _ _).alloc (Nat.le_refl _) (.cells #[] 5))
  go_enter Try.func14, Try.ntmps14
  go_wp2_with (at_builtin; refine wpList_append_bytes _ rfl _ _ 22 rfl Try.underlying22 Try.info5 _ _ [] rfl ho S _ _ _ l rfl rfl (by intro h; cases h) hn' ?c1 ?_)
  case c1 => simpa using hl
  intro g' v' w' ho' hg' hg hnil
  have hn0 : v' ≠ .slice none 0 0 := by simpa using hnil
  clear hnil
  obtain ⟨c', rfl, h1, h2, h3⟩ := ho'.shape hn0
  go_wp2
  go_ret
  exact ⟨g', c', rfl, by omega, h3, h1, h2, ho', (((Only.refl (fun k => k = w.heap.size) w).alloc (.cells #[] 5)).then hg).below (Nat.le_refl _) (by intro k hk e; omega)⟩

theorem began_c (r c : Nat) (S : Nat → Prop) (p : Option Addr) (bad : Int) (n : Nat) (l : List UInt8) (w : World) (hr : Box2 w r 43 (.slice p n c) (.int .i64 bad)) (hb : Rd w S p l) (hl : l.length ≤ 140737488355328) (hnl : l.length = n) :
    Calls Try.prog 12 #[.pointer (some ⟨r, 0, none⟩)] w fun e w' => e = .returned (.bool (beganS l)) ∧ w = w' := by
  subst hnl
  have c0 := hr.c0
  match l with
  | [] =>
    go_enter Try.func12, Try.ntmps12
    go_wp2
    go_ret
    simp [beganS]
  | [a] =>
    obtain ⟨g, o, rfl, _, hg, hc⟩ := hb.at (by simp)
    have d0 := hc 0 (by simp)
    simp at d0 c0
    clear hc hb
    go_enter Try.func12, Try.ntmps12
    go_wp2
    all_goals go_ret
    all_goals (simp [beganS]; try omega)
  | a :: b :: t =>
    obtain ⟨g, o, rfl, _, hg, hc⟩ := hb.at (by simp)
    have d0 := hc 0 (by simp)
    have d1 := hc 1 (by simp)
    simp at d0 c0 d1 hl
    clear hc hb
    go_enter Try.func12, Try.ntmps12
    go_wp2
    all_goals go_ret
    all_goals (refine ⟨congrArg Ending.returned (congrArg Value.bool ?_), rfl⟩; rw [Bool.eq_iff_iff]; simp [beganS]; try omega)

def retE (e : Int) : Value := .tuple #[.int .i64 0, .slice none 0 0, .bool false, .int .i64 e]
abbrev rp (r : Nat) : Value := .pointer (some ⟨r, 0, none⟩)

theorem take_nil (w : World) : Calls Try.prog 6 #[.pointer none] w fun e w' => e = .returned (retE 1) ∧ w = w' := by
  go_enter Try.func6, Try.ntmps6
  go_wp2
  exact bodyPost_ret (v := retE 1) (by simp [results, Try.results6, go_sem, retE]) rfl ⟨rfl, rfl⟩

theorem take_bad (r : Nat) (v : Value) (bad : Int) (w : World) (hr : Box2 w r 43 v (.int .i64 bad)) (h : bad ≠ 0) :
    Calls Try.prog 6 #[rp r] w fun e w' => e = .returned (retE bad) ∧ ∃ n, w' = w.drewN n := by
  have c1 := hr.c1
  have hb : (bad != 0) = true := by simpa using h
  go_enter Try.func6, Try.ntmps6
  go_wp2
  go_quiet (fail)
  go_wp2
  exact bodyPost_ret (v := retE bad) (by simp [results, Try.results6, go_sem, retE]) rfl ⟨rfl, _, rfl⟩

def TakeErr (w : World) (r : Nat) (v : Value) (bad : Int) (e : Ending) (w' : World) : Prop := e = .returned (retE bad) ∧ Box2 w' r 43 v (.int .i64 bad) ∧ Only (· = r) w w'

theorem take_form (r c g n : Nat) (p : Option Addr) (l : List UInt8) (w : World) (hr : Box2 w r 43 (.slice p n c) (.int .i64 0)) (hb : Rd w (· = g) p l) (hl : l.length ≤ 140737488355328) (hnl : l.length = n) (h : beganS l = false) :
    Calls Try.prog 6 #[rp r] w (TakeErr w r (.slice p n c) 3) := by
  have c0 := hr.c0
  have c1 := hr.c1
  have f1 := hr.fr 1
  have hs := hr.set1 (.int .i64 3)
  have d1 := hs.c1
  go_enter Try.func6, Try.ntmps6
  go_wp2_with (go_at_call 12; refine (began_c r c _ p 0 n l _ hr hb hl hnl).mono ?_; rintro e w' ⟨rfl, rfl⟩)
  go_wp2
  go_quiet (fail)
  go_wp2
  refine bodyPost_ret (v := retE 3) (by simp [results, Try.results6, go_sem, retE]) rfl ⟨rfl, hs, ?_⟩
  exact ((Only.refl (fun k => k = r) w).setCell ⟨r, 1, none⟩ _ (.inl rfl)).drewN _

def TakeNo (w : World) (e : Ending) (w' : World) : Prop := e = .returned (retE 0) ∧ ∃ n, w' = w.drewN n

theorem take_short (r c g n : Nat) (p : Option Addr) (l : List UInt8) (w : World) (hr : Box2 w r 43 (.slice p n c) (.int .i64 0)) (hb : Rd w (· = g) p l) (hl : l.length ≤ 140737488355328) (hnl : l.length = n) (h : beganS l = true) (h5 : n < 5) :
    Calls Try.prog 6 #[rp r] w (TakeNo w) := by
  have c0 := hr.c0
  have c1 := hr.c1
  go_enter Try.func6, Try.ntmps6
  go_wp2_with (go_at_call 12; refine (began_c r c _ p 0 n l _ hr hb hl hnl).mono ?_; rintro e w' ⟨rfl, rfl⟩)
  exact bodyPost_ret (v := retE 0) (by simp [results, Try.results6, go_sem, retE]) rfl ⟨rfl, 0, rfl⟩

theorem most_c (k : UInt8) (w : World) : Calls Try.prog 13 #[.int .u8 (k.toNat : Int)] w fun e w' => e = .returned (.int .i64 (mostS k : Nat)) ∧ w = w' := by
  by_cases h : k.toNat = 23
  · have hi : ((k.toNat : Int) == 23) = true := by simp; omega
    go_enter Try.func13, Try.ntmps13
    go_wp2
    go_ret
    simp [mostS, h]
  · have hi : ((k.toNat : Int) == 23) = false := by simp; omega
    go_enter Try.func13, Try.ntmps13
    go_wp2
    go_ret
    simp [mostS, h]

end Go.Proofs.Ytcgdeebjgcgepaa
