/-
  What is put is read again. No condition but those that each theorem states.
-/
import Derived.Test.YtegmimnhkohaoaaCurE
namespace Go.Proofs.Ytegmimnhkohaoaa
open Go.RowKit Go.Kx

theorem foldl_ben (n k acc : Nat) : (be n k).foldl (fun n b => n * 256 + b.toNat) acc = acc * 256 ^ k + n % 256 ^ k := by
  induction k generalizing acc with
  | zero => simp [be, Nat.mod_one]
  | succ k ih =>
    simp only [be, List.foldl_cons]
    have h2 : n % 256 ^ (k + 1) = n % 256 ^ k + 256 ^ k * (n / 256 ^ k % 256) := by rw [Nat.pow_succ, Nat.mod_mul]
    rw [ih, UInt8.toNat_ofNat', h2, Nat.pow_succ 256 k]
    have h1 : (acc * 256 + n / 256 ^ k % 2 ^ 8) * 256 ^ k = acc * (256 ^ k * 256) + 256 ^ k * (n / 256 ^ k % 256) := by
      rw [Nat.add_mul, Nat.mul_assoc, Nat.mul_comm 256 (256 ^ k), Nat.mul_comm (n / 256 ^ k % 2 ^ 8)]
    rw [h1]
    omega
theorem beN_be {n k : Nat} (h : n < 256 ^ k) : beN (be n k) = n := by
  unfold beN
  rw [foldl_ben, Nat.mod_eq_of_lt h]
  omega
theorem S_app (a b : List UInt8) (n : Int) (h : (a.length : Int) = n) : badS (a ++ b) 0 n = 0 ∧ outS (a ++ b) 0 n = a ∧ leftS (a ++ b) 0 n = b := by
  subst h
  have hb : badS (a ++ b) 0 (a.length : Int) = 0 := by unfold badS; rw [if_neg (by omega), if_neg (by rw [List.length_append]; omega)]
  refine ⟨hb, ?_, ?_⟩
  · unfold outS; rw [if_pos hb]; simp
  · unfold leftS; rw [if_pos hb]; simp
theorem wb_ok {W : Nat} (h : 1 ≤ W ∧ W ≤ 4) (bad : Int) : wb bad (W : Int) = bad := by unfold wb; rw [if_pos (by omega)]
theorem vec_read {v t : List UInt8} {W : Nat} {least most : Int} (hW : 1 ≤ W ∧ W ≤ 4) (h : v.length < 256 ^ W) (h1 : least ≤ (v.length : Int)) (h2 : (v.length : Int) ≤ most) : vecS (be v.length W ++ (v ++ t)) 0 (W : Int) least most = (v, t, 0) := by
  obtain ⟨a1, a2, a3⟩ := S_app (be v.length W) (v ++ t) (W : Int) (by rw [be_length])
  obtain ⟨b1, b2, b3⟩ := S_app v t (v.length : Int) rfl
  unfold vecS
  simp only [wb_ok hW, a1, a2, a3, beN_be h, b1, b2, b3]
  rw [if_neg (by omega)]
end Go.Proofs.Ytegmimnhkohaoaa
