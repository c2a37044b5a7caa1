/-
  Of a message's bytes: a part of them is no message; all of them, and more behind, are taken again. Conditions: those of each theorem.
-/
import Derived.Test.YtkgeecejgpekkaaMsgA
namespace Go.Proofs.Ytkgeecejgpekkaa
open Go.RowKit Go.Kx

theorem msgB_cons (k : Nat) (l : List UInt8) : ∃ a b1 b2 b3, be k 1 = [a] ∧ be l.length 3 = [b1, b2, b3] ∧ msgB k l = a :: b1 :: b2 :: b3 :: l := by
  refine ⟨_, _, _, _, rfl, rfl, ?_⟩
  simp [msgB, be]
theorem takeM_part {k : Nat} {l : List UInt8} {i : Nat} (hl : l.length ≤ 2048) (hi : i < (msgB k l).length) : takeM ((msgB k l).take i) = (0, [], (msgB k l).take i, false, 0) := by
  have hlen : ((msgB k l).take i).length = i := by rw [List.length_take]; omega
  by_cases h4 : i < 4
  · unfold takeM
    rw [if_pos (by omega)]
  · obtain ⟨a, b1, b2, b3, _, hb, hx⟩ := msgB_cons k l
    have hn : beN ((((msgB k l).take i).drop 1).take 3) = l.length := by
      obtain ⟨j, rfl⟩ : ∃ j, i = j + 4 := ⟨i - 4, by omega⟩
      rw [hx]
      simp only [List.take_succ_cons, List.drop_succ_cons, List.drop_zero]
      rw [List.take_zero, show ([b1, b2, b3] : List UInt8) = be l.length 3 from hb.symm]
      exact beN_be (by omega)
    have hml := msgB_length k l
    unfold takeM
    rw [if_neg (by omega)]
    simp only
    rw [hn, if_neg (by omega), if_pos (by omega)]
theorem takeM_full {k : Nat} {l mo : List UInt8} (hk : k < 256) (hl : l.length ≤ 2048) : takeM (msgB k l ++ mo) = (k, l, mo, true, 0) := by
  obtain ⟨a, b1, b2, b3, ha, hb, hx⟩ := msgB_cons k l
  have hlen : (msgB k l ++ mo).length = l.length + 4 + mo.length := by rw [List.length_append, msgB_length]
  have h1 : (msgB k l ++ mo).take 1 = be k 1 := by rw [hx, ha]; simp
  have h3 : ((msgB k l ++ mo).drop 1).take 3 = be l.length 3 := by rw [hx, hb]; simp
  have h4 : (msgB k l ++ mo).drop 4 = l ++ mo := by rw [hx]; simp
  unfold takeM
  rw [if_neg (by omega)]
  simp only
  rw [h3, beN_be (by omega), if_neg (by omega), if_neg (by omega), h1, h4, beN_be (by omega)]
  simp
end Go.Proofs.Ytkgeecejgpekkaa
