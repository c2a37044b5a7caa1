/-
  The records that StreamSingles makes, the wrong beginnings, and what Take says of each of their parts, as plain functions on lists. No condition but those that each theorem states.
-/
import Derived.Test.YtcgdeebjgcgepaaSpecB
namespace Go.Proofs.Ytcgdeebjgcgepaa
open Go.RowKit Go.Kx

def kindB (x : UInt8) : UInt8 := UInt8.ofNat (20 + x.toNat % 4)
/-- The record that StreamSingles makes of a kind. -/
def recOf (K : Nat) (x : UInt8) : List UInt8 := kindB x :: 3 :: x :: 0 :: UInt8.ofNat K :: List.replicate K 0
/-- All of them. -/
def flat (K : Nat) : List UInt8 → List UInt8
  | [] => []
  | x :: r => recOf K x ++ flat K r

theorem kindB_nat (x : UInt8) : (kindB x).toNat = 20 + x.toNat % 4 := by unfold kindB; rw [UInt8.toNat_ofNat']; omega
theorem recOf_length (K : Nat) (x : UInt8) : (recOf K x).length = 5 + K := by simp [recOf]; omega
theorem flat_length (K : Nat) : ∀ l : List UInt8, (flat K l).length = l.length * (5 + K)
  | [] => by simp [flat]
  | x :: r => by rw [flat, List.length_append, recOf_length, flat_length K r, List.length_cons, Nat.add_mul]; omega
theorem flat_append (K : Nat) : ∀ a b : List UInt8, flat K (a ++ b) = flat K a ++ flat K b
  | [], b => rfl
  | x :: r, b => by rw [List.cons_append, flat, flat, flat_append K r b, List.append_assoc]
theorem flat_snoc (K : Nat) (a : List UInt8) (x : UInt8) : flat K (a ++ [x]) = flat K a ++ recOf K x := by rw [flat_append]; simp [flat]
theorem flat_drop (K : Nat) : ∀ (l : List UInt8) (a : Nat), (flat K l).drop (a * (5 + K)) = flat K (l.drop a)
  | l, 0 => by simp
  | [], a + 1 => by simp [flat]
  | x :: r, a + 1 => by
    rw [flat, List.drop_succ_cons, ← flat_drop K r a, Nat.add_mul, Nat.one_mul, Nat.add_comm (a * (5 + K)), ← List.drop_drop, List.drop_left' (recOf_length K x)]
theorem flat_get (K : Nat) (l : List UInt8) (a j : Nat) (ha : a < l.length) (hj : j < 5 + K) : (flat K l)[a * (5 + K) + j]? = (recOf K l[a])[j]? := by
  rw [← List.getElem?_drop, flat_drop, List.drop_eq_getElem_cons ha, flat, List.getElem?_append_left (by rw [recOf_length]; exact hj)]

theorem beganS_rec (K : Nat) (x : UInt8) (j : Nat) : beganS ((recOf K x).take j) = true := by
  have hk := kindB_nat x
  match j with
  | 0 => rfl
  | 1 => simp [recOf, beganS]; omega
  | j + 2 => simp only [recOf, List.take_succ_cons, beganS]; simp; omega
theorem takeS_part (K : Nat) (x : UInt8) (j : Nat) (hK : K < 30) (hj : j < 5 + K) : takeS ((recOf K x).take j) = (0, none) := by
  have hb := beganS_rec K x j
  have hl : ((recOf K x).take j).length = j := by rw [List.length_take, recOf_length]; omega
  by_cases h5 : j < 5
  · rw [takeS_short (by omega), if_neg (by rw [hb]; simp)]
  · obtain ⟨t, rfl⟩ : ∃ t, j = t + 5 := ⟨j - 5, by omega⟩
    have e : (recOf K x).take (t + 5) = kindB x :: 3 :: x :: 0 :: UInt8.ofNat K :: (List.replicate K (0 : UInt8)).take t := rfl
    rw [e] at hb ⊢
    have hn : (0 : UInt8).toNat * 256 + (UInt8.ofNat K).toNat = K := by rw [UInt8.toNat_ofNat']; simp; omega
    rw [takeS_cons, if_neg (by rw [hb]; simp), if_neg (by rw [hn]; unfold mostS; split <;> omega), if_pos (by rw [hn, List.length_take, List.length_replicate]; omega)]
theorem takeS_full (K : Nat) (x : UInt8) (hK : K < 30) : takeS (recOf K x) = (0, some (kindB x, List.replicate K 0, [])) := by
  have hb := beganS_rec K x (5 + K)
  rw [List.take_of_length_le (by rw [recOf_length]; omega)] at hb
  have hn : (0 : UInt8).toNat * 256 + (UInt8.ofNat K).toNat = K := by rw [UInt8.toNat_ofNat']; simp; omega
  unfold recOf at hb ⊢
  rw [takeS_cons, if_neg (by rw [hb]; simp), if_neg (by rw [hn]; unfold mostS; split <;> omega), if_neg (by rw [hn, List.length_replicate]; omega), hn]
  rw [List.take_of_length_le (by simp), List.drop_eq_nil_of_le (by simp)]

/-- The wrong beginnings. -/
def wrongs : Nat → List UInt8
  | 0 => [19]
  | 1 => [24]
  | 2 => [23, 2]
  | 3 => [23, 3, 0, 1, 18]
  | _ => [21, 3, 0, 1, 1]
theorem wrongs_len (q : Nat) : 1 ≤ (wrongs q).length ∧ (wrongs q).length ≤ 5 := by
  unfold wrongs; split <;> simp
theorem wrongs_part (q j : Nat) (hj : j < (wrongs q).length) : takeS ((wrongs q).take j) = (0, none) := by
  unfold wrongs at hj ⊢
  split at hj
  all_goals simp only [List.length_cons, List.length_nil] at hj
  · obtain rfl : j = 0 := by omega
    rfl
  · obtain rfl : j = 0 := by omega
    rfl
  · have : j = 0 ∨ j = 1 := by omega
    rcases this with rfl | rfl <;> decide
  · have : j = 0 ∨ j = 1 ∨ j = 2 ∨ j = 3 ∨ j = 4 := by omega
    rcases this with rfl | rfl | rfl | rfl | rfl <;> decide
  · have : j = 0 ∨ j = 1 ∨ j = 2 ∨ j = 3 ∨ j = 4 := by omega
    rcases this with rfl | rfl | rfl | rfl | rfl <;> decide
theorem wrongs_full (q : Nat) : ∃ E, takeS (wrongs q) = (E, none) ∧ E ≠ 0 := by
  unfold wrongs
  split
  · exact ⟨3, by decide, by decide⟩
  · exact ⟨3, by decide, by decide⟩
  · exact ⟨3, by decide, by decide⟩
  · exact ⟨5, by decide, by decide⟩
  · exact ⟨5, by decide, by decide⟩

theorem flat_take (K : Nat) (F : List UInt8) (a j : Nat) (ha : a < F.length) (hj : j ≤ 5 + K) : (flat K (F.drop a)).take j = (recOf K F[a]).take j := by
  rw [List.drop_eq_getElem_cons ha, flat, List.take_append_of_le_length (by rw [recOf_length]; exact hj)]
theorem take1 (l : List UInt8) (i : Nat) (h : i < l.length) : (l.drop i).take 1 = [l[i]] := by rw [List.drop_eq_getElem_cons h]; rfl
theorem flat_bound (K : Nat) (F : List UInt8) (a j : Nat) (ha : a < F.length) (hj : j < 5 + K) : a * (5 + K) + j < (flat K F).length := by
  rw [flat_length]
  have := Nat.mul_le_mul_right (5 + K) (show a + 1 ≤ F.length by omega)
  rw [Nat.add_mul] at this; omega
theorem flat_feed (K : Nat) (F : List UInt8) (a j I : Nat) (hI : I = a * (5 + K) + j) (h : I < (flat K F).length) :
    (flat K (F.drop a)).take j ++ [(flat K F)[I]] = (flat K (F.drop a)).take (j + 1) := by
  subst hI
  have h2 : j < (flat K (F.drop a)).length := by rw [← flat_drop, List.length_drop]; omega
  rw [List.take_succ_eq_append_getElem h2]
  congr 2
  have : (flat K (F.drop a))[j]? = (flat K F)[a * (5 + K) + j]? := by rw [← flat_drop, List.getElem?_drop]
  rw [List.getElem?_eq_getElem h2, List.getElem?_eq_getElem h] at this
  exact (Option.some.inj this).symm
theorem wrong_feed (q j : Nat) (h : j < (wrongs q).length) : (wrongs q).take j ++ [(wrongs q)[j]] = (wrongs q).take (j + 1) := (List.take_succ_eq_append_getElem h).symm
end Go.Proofs.Ytcgdeebjgcgepaa
