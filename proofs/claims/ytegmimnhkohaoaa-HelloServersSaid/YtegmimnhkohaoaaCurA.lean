/-
  The contracts of cursor.Reader's inner functions wrong, right and take, and of bytes.Clone. Conditions: the Reader's bytes lie in a block of their own; Clone: at most 2 to the 47th bytes.
-/
import Derived.Test.YtegmimnhkohaoaaRows
import Derived.Test.YtegmimnhkohaoaaBase
namespace Go.Proofs.Ytegmimnhkohaoaa
open Go.RowKit Go.Kx

theorem Try.info5 : (Try.prog.info? 5).map (fun i => (i.zero, i.size, i.bytes)) = some (some (.int .u8 0), 1, 1) := by kernel_rfl

/-- A Reader in block r that has the bytes s yet (they lie in block g; of none g may be r), and the error bad. -/
structure Cur (w : World) (r g : Nat) (s : List UInt8) (bad : Int) : Prop where
  glt : g < w.heap.size
  ex : ∃ p c, Box2 w r 125 (.slice p s.length c) (.int .i64 bad) ∧ Rd w (· = g) p s ∧ s.length ≤ c ∧ c ≤ maxLen ∧ (p = none → c = 0) ∧ ∀ a, p = some a → a.spot = none ∧ a.block = g ∧ r ≠ g
theorem Cur.lt {w : World} {r g : Nat} {s : List UInt8} {bad : Int} (h : Cur w r g s bad) : r < w.heap.size := by
  obtain ⟨p, c, hb, _⟩ := h.ex
  exact hb.lt
theorem Cur.only {w w' : World} {q : Nat → Prop} {r g : Nat} {s : List UInt8} {bad : Int} (h : Cur w r g s bad) (ho : Only q w w') (h1 : ¬ q r) (h2 : ¬ q g) : Cur w' r g s bad := by
  obtain ⟨hlt, p, c, hb, hr, h3, h4, h5, h6⟩ := h
  exact ⟨Nat.lt_of_lt_of_le hlt ho.size, p, c, hb.only ho h1, hr.only ho (fun k hk => hk ▸ h2), h3, h4, h5, h6⟩
/-- Bytes of a Reader stay where only its own block changes. -/
theorem rd_r {w w' : World} {r g : Nat} {p : Option Addr} {l : List UInt8} (hR : Rd w (· = g) p l) (h : ∀ a, p = some a → a.spot = none ∧ a.block = g ∧ r ≠ g) (ho : Only (· = r) w w') : Rd w' (· = g) p l := by
  cases p with
  | none => rw [hR.none_nil]; exact Rd.nil _ _ _
  | some a => exact hR.only ho (fun k hk e => (h a rfl).2.2 (by omega))

abbrev rp (r : Nat) : Value := .pointer (some ⟨r, 0, none⟩)
abbrev ret0 : Value := .tuple #[]

/-- The error that is noted: the first. -/
def rm (bad e : Int) : Int := if bad = 0 then e else bad

theorem wrong_c (r g : Nat) (s : List UInt8) (bad e : Int) (w : World) (hr : Cur w r g s bad) :
    Calls Try.prog 78 #[rp r, .int .i64 e] w fun en w' => en = .returned ret0 ∧ Cur w' r g s (rm bad e) ∧ Only (· = r) w w' := by
  obtain ⟨hlt, p, c, hb, hR, h1, h2, h3, h4⟩ := hr
  have c1 := hb.c1
  have f1 := hb.fr 1
  have hs := hb.set1 (.int .i64 e)
  by_cases h : bad = 0
  · subst h
    go_enter Try.func78, Try.ntmps78
    go_wp2
    go_end0
    have ho : Only (· = r) w (w.setCell ⟨r, 1, none⟩ (.int .i64 e)) := (Only.refl (fun k => k = r) w).setCell ⟨r, 1, none⟩ _ (.inl rfl)
    exact ⟨rfl, ⟨Nat.lt_of_lt_of_le hlt ho.size, p, c, by simpa [rm] using hs, rd_r hR h4 ho, h1, h2, h3, h4⟩, ho⟩
  · have hb0 : (bad == 0) = false := by simpa using h
    go_enter Try.func78, Try.ntmps78
    go_wp2
    go_end0
    exact ⟨rfl, ⟨hlt, p, c, by simpa [rm, h] using hb, hR, h1, h2, h3, h4⟩, Only.refl _ _⟩

theorem right_c (n : Int) (w : World) : Calls Try.prog 79 #[.int .i64 n] w fun e w' => e = .returned (.bool (decide (1 ≤ n ∧ n ≤ 4))) ∧ w = w' := by
  by_cases h : 1 ≤ n
  · by_cases h' : n ≤ 4
    · go_enter Try.func79, Try.ntmps79
      go_wp2
      all_goals go_ret
      all_goals (refine ⟨congrArg Ending.returned (congrArg Value.bool ?_), rfl⟩; simp; try omega)
    · go_enter Try.func79, Try.ntmps79
      go_wp2
      all_goals go_ret
      all_goals (refine ⟨congrArg Ending.returned (congrArg Value.bool ?_), rfl⟩; simp; try omega)
  · go_enter Try.func79, Try.ntmps79
    go_wp2
    all_goals go_ret
    all_goals (refine ⟨congrArg Ending.returned (congrArg Value.bool ?_), rfl⟩; simp; try omega)

/-! ### take -/
/-- The error behind a call of take. -/
def badS (s : List UInt8) (bad n : Int) : Int := if n < 0 then rm bad 3 else if (s.length : Int) < n then rm bad 2 else bad
/-- What take takes. -/
def outS (s : List UInt8) (bad n : Int) : List UInt8 := if badS s bad n = 0 then s.take n.toNat else []
/-- What it leaves. -/
def leftS (s : List UInt8) (bad n : Int) : List UInt8 := if badS s bad n = 0 then s.drop n.toNat else s

def TakeR (w : World) (r g : Nat) (s : List UInt8) (bad n : Int) (e : Ending) (w' : World) : Prop :=
  ∃ p c, e = .returned (.tuple #[.slice p (outS s bad n).length c, .bool (decide (badS s bad n = 0))]) ∧ (p = none → c = 0) ∧ Rd w' (· = g) p (outS s bad n) ∧ Cur w' r g (leftS s bad n) (badS s bad n) ∧ Only (· = r) w w'

theorem take_nil (n : Value) (w : World) : Calls Try.prog 77 #[.pointer none, n] w fun e w' => e = .returned (.tuple #[.slice none 0 0, .bool false]) ∧ w = w' := by
  go_enter Try.func77, Try.ntmps77
  go_wp2
  go_ret2
  exact ⟨rfl, rfl⟩

theorem takeR_no {w w' : World} {r g : Nat} {s : List UInt8} {bad n b : Int} (hb : badS s bad n = b) (h : b ≠ 0) (hc : Cur w' r g s b) (ho : Only (· = r) w w') : TakeR w r g s bad n (.returned (.tuple #[.slice none 0 0, .bool false])) w' := by
  have h' : badS s bad n ≠ 0 := by rw [hb]; exact h
  refine ⟨none, 0, ?_, fun _ => rfl, ?_, ?_, ho⟩
  · simp [outS, h']
  · simp only [outS, if_neg h']; exact Rd.nil _ _ _
  · simp only [leftS, if_neg h']; rw [hb]; exact hc

theorem take_neg (r g : Nat) (s : List UInt8) (bad n : Int) (w : World) (hr : Cur w r g s bad) (hn : n < 0) :
    Calls Try.prog 77 #[rp r, .int .i64 n] w (TakeR w r g s bad n) := by
  have h3 : rm bad 3 ≠ 0 := by unfold rm; split <;> simp_all
  have hi : (rm bad 3 != 0) = true := by simpa using h3
  go_enter Try.func77, Try.ntmps77
  go_wp2_with (go_at_call 78; refine (wrong_c r g s bad 3 _ hr).mono ?_; rintro e w' ⟨rfl, hc, ho⟩; obtain ⟨hne', p', c', hbx', hrest'⟩ := id hc; have d1 := hbx'.c1)
  go_ret2
  exact takeR_no (b := rm bad 3) (by simp [badS, hn]) h3 hc ho

theorem take_long (r g : Nat) (s : List UInt8) (bad n : Int) (w : World) (hr : Cur w r g s bad) (hn : 0 ≤ n) (hl : (s.length : Int) < n) :
    Calls Try.prog 77 #[rp r, .int .i64 n] w (TakeR w r g s bad n) := by
  have h3 : rm bad 2 ≠ 0 := by unfold rm; split <;> simp_all
  have hi : (rm bad 2 != 0) = true := by simpa using h3
  have hn' : ¬ n < 0 := by omega
  obtain ⟨hne, p, c, hb, _⟩ := id hr
  have c0 := hb.c0
  go_enter Try.func77, Try.ntmps77
  go_wp2_with (go_at_call 78; refine (wrong_c r g s bad 2 _ hr).mono ?_; rintro e w' ⟨rfl, hc, ho⟩; obtain ⟨hne', p', c', hbx', hrest'⟩ := id hc; have d1 := hbx'.c1)
  go_ret2
  exact takeR_no (b := rm bad 2) (by unfold badS; rw [if_neg (by omega), if_pos hl]) h3 hc ho

theorem take_bad (r g : Nat) (s : List UInt8) (bad n : Int) (w : World) (hr : Cur w r g s bad) (hn : 0 ≤ n) (hl : n ≤ (s.length : Int)) (h : bad ≠ 0) :
    Calls Try.prog 77 #[rp r, .int .i64 n] w (TakeR w r g s bad n) := by
  have hi : (bad != 0) = true := by simpa using h
  have hn' : ¬ n < 0 := by omega
  have hl' : ¬ (s.length : Int) < n := by omega
  obtain ⟨hne, p, c, hb, _⟩ := id hr
  have c0 := hb.c0
  have c1 := hb.c1
  go_enter Try.func77, Try.ntmps77
  go_wp2
  go_ret2
  exact takeR_no (b := bad) (by unfold badS; rw [if_neg (by omega), if_neg (by omega)]) h hr (Only.refl _ _)

theorem takeR_yes {w : World} {r g n c c' : Nat} {s : List UInt8} {p p' : Option Addr} (hlt : g < w.heap.size) (hb : Box2 w r 125 (.slice p s.length c) (.int .i64 0)) (hR : Rd w (· = g) p s) (hbad : badS s 0 (n : Int) = 0) (hl : n ≤ s.length)
    (hcm : c' ≤ maxLen) (hsc : s.length - n ≤ c') (hR' : Rd w (· = g) p' (s.drop n)) (hp : p = none → n = 0) (hp' : p' = none → c' = 0) (hpo : ∀ a, p = some a → a.spot = none ∧ a.block = g ∧ r ≠ g) (hpa : ∀ a, p' = some a → a.spot = none ∧ a.block = g ∧ r ≠ g) :
    TakeR w r g s 0 (n : Int) (.returned (.tuple #[.slice p n n, .bool true])) (w.setCell ⟨r, 0, none⟩ (.slice p' (s.length - n) c')) := by
  have ho : Only (· = r) w (w.setCell ⟨r, 0, none⟩ (.slice p' (s.length - n) c')) := (Only.refl (fun k => k = r) w).setCell ⟨r, 0, none⟩ _ (.inl rfl)
  have h1 : outS s 0 (n : Int) = s.take n := by unfold outS; rw [if_pos hbad]; simp
  have h2 : leftS s 0 (n : Int) = s.drop n := by unfold leftS; rw [if_pos hbad]; simp
  have h3 : (s.take n).length = n := by rw [List.length_take]; omega
  refine ⟨p, n, ?_, hp, ?_, ?_, ho⟩
  · rw [h1, h3, hbad]; rfl
  · rw [h1]; exact rd_r (hR.take n) hpo ho
  · rw [h2, hbad]
    refine ⟨Nat.lt_of_lt_of_le hlt ho.size, p', c', ?_, rd_r hR' hpa ho, by rw [List.length_drop]; exact hsc, hcm, hp', hpa⟩
    rw [List.length_drop]
    exact hb.set0 _

theorem take_ok (r g n : Nat) (s : List UInt8) (w : World) (hr : Cur w r g s 0) (hl : n ≤ s.length) :
    Calls Try.prog 77 #[rp r, .int .i64 (n : Int)] w (TakeR w r g s 0 (n : Int)) := by
  have hn' : ¬ (n : Int) < 0 := by omega
  have hl' : ¬ (s.length : Int) < (n : Int) := by omega
  have hbad : badS s 0 (n : Int) = 0 := by unfold badS; rw [if_neg (by omega), if_neg (by omega)]
  obtain ⟨hlt, p, c, hb, hR, hsc, hcm, hp0, hpa⟩ := id hr
  have c0 := hb.c0
  have c1 := hb.c1
  have f0 := hb.fr 0
  have hnc : n ≤ c := by omega
  have hcm' := hcm
  unfold maxLen at hcm
  go_enter Try.func77, Try.ntmps77
  go_wp2
  case inl =>
    go_ret2
    refine takeR_yes hlt hb hR hbad hl (Nat.zero_le _) (by omega) ?_ (fun e => by have := hp0 e; omega) (fun _ => rfl) hpa hpa
    rw [List.drop_of_length_le (by omega)]
    exact Rd.nil _ _ _
  case inr =>
    go_ret2
    show TakeR w r g s 0 (n : Int) (.returned (.tuple #[.slice p n n, .bool true])) (w.setCell ⟨r, 0, none⟩ (.slice (Option.map (fun x => x.add n) p) (s.length - n) (c - n)))
    refine takeR_yes hlt hb hR hbad hl (by omega) (by omega) ?_ (fun e => by have := hp0 e; omega) (fun e => by simp at e; have := hp0 e; omega) hpa ?_
    · cases p with
      | none => have := hR.none_nil; subst this; simp; exact Rd.nil _ _ _
      | some a =>
        obtain ⟨b, o, sp⟩ := a
        have := (hpa _ rfl).1
        simp at this
        subst this
        have e : (⟨b, o, none⟩ : Addr).add n = ⟨b, o + n, none⟩ := by unfold Addr.add; split <;> simp_all
        simp only [Option.map_some, e]
        exact hR.drop n
    · intro a ha
      cases p with
      | none => cases ha
      | some a' =>
        obtain ⟨b, o, sp⟩ := a'
        have h1 := (hpa _ rfl).1
        simp at h1
        subst h1
        have h2 := hpa _ rfl
        have e : (⟨b, o, none⟩ : Addr).add n = ⟨b, o + n, none⟩ := by unfold Addr.add; split <;> simp_all
        simp only [Option.map_some, e, Option.some.injEq] at ha
        subst ha
        exact ⟨rfl, h2.2.1, h2.2.2⟩

theorem take_c (r g : Nat) (s : List UInt8) (bad n : Int) (w : World) (hr : Cur w r g s bad) :
    Calls Try.prog 77 #[rp r, .int .i64 n] w (TakeR w r g s bad n) := by
  by_cases hn : n < 0
  · exact take_neg r g s bad n w hr hn
  by_cases hl : (s.length : Int) < n
  · exact take_long r g s bad n w hr (by omega) hl
  by_cases hb : bad = 0
  · subst hb
    obtain ⟨m, rfl⟩ : ∃ m : Nat, n = m := ⟨n.toNat, by omega⟩
    exact take_ok r g m s w hr (by omega)
  · exact take_bad r g s bad n w hr (by omega) (by omega) hb

/-! ### Clone -/
/-- Some slice that is the call's own, new, with the bytes l: nil, or a new row. -/
def NewBytes (w : World) (l : List UInt8) (e : Ending) (w' : World) : Prop :=
  ∃ g p c, e = .returned (.slice p l.length c) ∧ w.heap.size ≤ g ∧ g ≠ w'.heap.size ∧ Own w' g (.slice p l.length c) l ∧ Below w.heap.size w w'

theorem qbytes : ∀ (w : World) (a : Option Addr) (n c n' c' : Nat), (binOp .eql 23 (.slice a n c) (.slice none n' c')).run Try.prog w = .ok (.bool a.isNone) w := fun w a n c n' c' => Lib.run_eql_slice_nil w _ _ a n c n' c' Try.underlying23

theorem clone_nil (w : World) : Calls Try.prog 76 #[.slice none 0 0] w fun e w' => e = .returned (.slice none 0 0) ∧ w = w' := by
  have q := qbytes
  go_enter Try.func76, Try.ntmps76
  go_wp2
  go_ret
  exact ⟨rfl, rfl⟩

/-- What Clone of a slice that is not nil leaves: a new row. -/
def CloneR (w : World) (n : Nat) (l : List UInt8) (e : Ending) (w' : World) : Prop := ∃ g c', e = .returned (.slice (some ⟨g, 0, none⟩) n c') ∧ w.heap.size ≤ g ∧ g < w'.heap.size ∧ n ≤ c' ∧ c' ≤ maxLen ∧ Own w' g (.slice (some ⟨g, 0, none⟩) n c') l ∧ Below w.heap.size w w'

theorem clone_c (S : Nat → Prop) (a : Addr) (n c : Nat) (l : List UInt8) (w : World) (hn : Rd w S (some a) l) (hl : l.length ≤ 140737488355328) (hnl : l.length = n) :
    Calls Try.prog 76 #[.slice (some a) n c] w (CloneR w n l) := by
  subst hnl
  have q := qbytes
  have ho := Own.new w
  have hn' := Rd.below hn ((Below.refl _ _).alloc (Nat.le_refl _) (.cells #[] 5))
  go_enter Try.func76, Try.ntmps76
  go_wp2_with (at_builtin; refine wpList_append_bytes _ rfl _ _ 23 rfl Try.underlying23 Try.info5 _ _ [] rfl ho S _ _ _ l rfl rfl (by intro h; cases h) hn' ?c1 ?_)
  case c1 => simpa using hl
  intro g' v' w' ho' hg' hg hnil
  have hn0 : v' ≠ .slice none 0 0 := by simpa using hnil
  clear hnil
  obtain ⟨c', rfl, h1, h2, h3⟩ := ho'.shape hn0
  go_wp2
  go_ret
  exact ⟨g', c', rfl, by omega, h3, h1, h2, ho', (((Only.refl (fun k => k = w.heap.size) w).alloc (.cells #[] 5)).then hg).below (Nat.le_refl _) (by intro k hk e; omega)⟩

theorem clone_any (S : Nat → Prop) (p : Option Addr) (n c : Nat) (l : List UInt8) (w : World) (hn : Rd w S p l) (hp : p = none → c = 0) (hl : l.length ≤ 140737488355328) (hnl : l.length = n) :
    Calls Try.prog 76 #[.slice p n c] w (fun e w' => NewBytes w l e w' ∧ (p = none ↔ e = .returned (.slice none 0 0))) := by
  subst hnl
  cases p with
  | none =>
    have h0 := hn.none_nil
    subst h0
    rw [hp rfl]
    refine (clone_nil w).mono ?_
    rintro e w' ⟨rfl, rfl⟩
    exact ⟨⟨w.heap.size + 1, none, 0, rfl, by omega, by omega, Own.nil _ _, Below.refl _ _⟩, by simp⟩
  | some a =>
    refine (clone_c S a _ c l w hn hl rfl).mono ?_
    rintro e w' ⟨g, c', rfl, h1, h2, h3, h4, h5, h6⟩
    exact ⟨⟨g, _, c', rfl, h1, by omega, h5, h6⟩, by simp⟩
end Go.Proofs.Ytegmimnhkohaoaa
