/-
  More bytes change nothing of a record that was there, nor of an error; what is still to come of the records. No condition but those that each theorem states.
-/
import Derived.Test.YtcgdeebjgcgepaaSpec
namespace Go.Proofs.Ytcgdeebjgcgepaa
open Go.RowKit Go.Kx

theorem beganS_bad (l x : List UInt8) (h : beganS l = false) : beganS (l ++ x) = false := by
  match l, h with
  | [a], h =>
    cases x with
    | nil => exact h
    | cons b t =>
      simp only [beganS, decide_eq_false_iff_not, List.cons_append, List.nil_append] at h ⊢
      exact fun hh => h hh.1
  | a :: b :: t, h => exact h

theorem takeS_cons (a0 a1 a2 a3 a4 : UInt8) (l : List UInt8) : takeS (a0 :: a1 :: a2 :: a3 :: a4 :: l) =
    if beganS (a0 :: a1 :: a2 :: a3 :: a4 :: l) = false then (3, none)
    else if mostS a0 < a3.toNat * 256 + a4.toNat then (5, none)
    else if l.length < a3.toNat * 256 + a4.toNat then (0, none)
    else (0, some (a0, l.take (a3.toNat * 256 + a4.toNat), l.drop (a3.toNat * 256 + a4.toNat))) := rfl

theorem takeS_not_began {l : List UInt8} (h : beganS l = false) : takeS l = (3, none) := by
  unfold takeS
  split
  · rw [if_pos h]
  · rw [if_pos h]

/-- The first five bytes decide whether it began rightly. -/
theorem beganS_five (a0 a1 a2 a3 a4 : UInt8) (l x : List UInt8) : beganS (a0 :: a1 :: a2 :: a3 :: a4 :: l) = beganS (a0 :: a1 :: a2 :: a3 :: a4 :: x) := rfl

theorem five_of' {l : List UInt8} (h : ¬ l.length < 5) : ∃ a0 a1 a2 a3 a4 t, l = a0 :: a1 :: a2 :: a3 :: a4 :: t := by
  match l, h with
  | [], h => simp at h
  | [_], h => simp at h
  | [_, _], h => simp at h
  | [_, _, _], h => simp at h
  | [_, _, _, _], h => simp at h
  | a0 :: a1 :: a2 :: a3 :: a4 :: t, _ => exact ⟨a0, a1, a2, a3, a4, t, rfl⟩

theorem takeS_some_more {l : List UInt8} {k : UInt8} {body rest : List UInt8} (x : List UInt8) (h : takeS l = (0, some (k, body, rest))) : takeS (l ++ x) = (0, some (k, body, rest ++ x)) := by
  by_cases h5 : l.length < 5
  · rw [takeS_short h5] at h
    split at h <;> cases h
  · obtain ⟨a0, a1, a2, a3, a4, t, rfl⟩ := five_of' h5
    rw [takeS_cons] at h
    split at h
    · cases h
    · rename_i hb
      split at h
      · cases h
      · rename_i hm
        split at h
        · cases h
        · rename_i hp
          simp only [Prod.mk.injEq, Option.some.injEq, true_and] at h
          obtain ⟨h1, h2, h3⟩ := h
          rw [← h1, ← h2, ← h3]
          show takeS (a0 :: a1 :: a2 :: a3 :: a4 :: (t ++ x)) = _
          rw [takeS_cons, if_neg (by rw [beganS_five _ _ _ _ _ _ t]; exact hb), if_neg hm, if_neg (by rw [List.length_append]; omega)]
          rw [List.take_append_of_le_length (by omega), List.drop_append_of_le_length (by omega)]

theorem takeS_err_more {l : List UInt8} {E : Int} (x : List UInt8) (hE : E ≠ 0) (h : takeS l = (E, none)) : takeS (l ++ x) = (E, none) := by
  by_cases hb : beganS l = false
  · rw [takeS_not_began hb] at h
    cases h
    exact takeS_not_began (beganS_bad l x hb)
  · by_cases h5 : l.length < 5
    · rw [takeS_short h5, if_neg hb] at h
      cases h; exact absurd rfl hE
    · obtain ⟨a0, a1, a2, a3, a4, t, rfl⟩ := five_of' h5
      rw [takeS_cons, if_neg hb] at h
      split at h
      · rename_i hm
        cases h
        show takeS (a0 :: a1 :: a2 :: a3 :: a4 :: (t ++ x)) = _
        rw [takeS_cons, if_neg (by rw [beganS_five _ _ _ _ _ _ t]; exact hb), if_pos hm]
      · split at h
        · cases h; exact absurd rfl hE
        · cases h

/-- What is still to come: the records from n on. -/
def Yet (recs : List (UInt8 × List UInt8)) (left : List UInt8) (bad : Int) (n : Nat) (l : List UInt8) : Prop := n ≤ recs.length ∧ allS l = (recs.drop n, left, bad)

theorem Yet.some {recs : List (UInt8 × List UInt8)} {left : List UInt8} {bad : Int} {n : Nat} {l x : List UInt8} {k : UInt8} {body rest : List UInt8} (h : Yet recs left bad n (l ++ x)) (ht : takeS l = (0, some (k, body, rest))) :
    n < recs.length ∧ recs[n]? = some (k, body) ∧ Yet recs left bad (n + 1) (rest ++ x) := by
  obtain ⟨hn, ha⟩ := h
  rw [allS_some (takeS_some_more x ht)] at ha
  simp only [Prod.mk.injEq] at ha
  obtain ⟨h1, h2⟩ := ha
  have hlt : n < recs.length := by
    rcases Nat.lt_or_ge n recs.length with h | h
    · exact h
    · rw [List.drop_eq_nil_of_le h] at h1; cases h1
  rw [List.drop_eq_getElem_cons hlt] at h1
  simp only [List.cons.injEq] at h1
  refine ⟨hlt, ?_, by omega, ?_⟩
  · rw [List.getElem?_eq_getElem hlt, ← h1.1]
  · rw [← h1.2, ← h2]
theorem Yet.err {recs : List (UInt8 × List UInt8)} {left : List UInt8} {bad E : Int} {n : Nat} {l x : List UInt8} (h : Yet recs left bad n (l ++ x)) (hE : E ≠ 0) (ht : takeS l = (E, none)) : n = recs.length ∧ bad = E := by
  obtain ⟨hn, ha⟩ := h
  rw [allS_none (takeS_err_more x hE ht)] at ha
  simp only [Prod.mk.injEq] at ha
  have := List.drop_eq_nil_iff.1 ha.1.symm
  exact ⟨by omega, ha.2.2.symm⟩
theorem Yet.done {recs : List (UInt8 × List UInt8)} {left : List UInt8} {bad : Int} {n : Nat} {l : List UInt8} (h : Yet recs left bad n l) (ht : takeS l = (0, none)) : n = recs.length ∧ bad = 0 ∧ left = l := by
  obtain ⟨hn, ha⟩ := h
  rw [allS_none ht] at ha
  simp only [Prod.mk.injEq] at ha
  have := List.drop_eq_nil_iff.1 ha.1.symm
  exact ⟨by omega, ha.2.2.symm, ha.2.1.symm⟩
theorem takeS_E {l : List UInt8} {E : Int} (h : takeS l = (E, none)) : 0 ≤ E ∧ E ≤ 5 := by
  unfold takeS at h
  split at h
  · split at h
    · cases h; omega
    · split at h
      · cases h; omega
      · split at h
        · cases h; omega
        · cases h
  · split at h
    · cases h; omega
    · cases h; omega
theorem takeS_cases (l : List UInt8) : (∃ E, takeS l = (E, none)) ∨ ∃ k body rest, takeS l = (0, some (k, body, rest)) := by
  unfold takeS
  split
  · split
    · exact .inl ⟨_, rfl⟩
    · split
      · exact .inl ⟨_, rfl⟩
      · split
        · exact .inl ⟨_, rfl⟩
        · exact .inr ⟨_, _, _, rfl⟩
  · split <;> exact .inl ⟨_, rfl⟩
end Go.Proofs.Ytcgdeebjgcgepaa
