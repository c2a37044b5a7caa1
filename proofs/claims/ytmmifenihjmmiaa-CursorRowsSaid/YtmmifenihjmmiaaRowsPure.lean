/-
  Numbers and vectors side by side, and what is left of them. Conditions: those of each theorem.
-/
import Derived.Test.YtmmifenihjmmiaaLawQ
import Derived.Test.YtmmifenihjmmiaaOpen
namespace Go.Proofs.Ytmmifenihjmmiaa
open Go.RowKit Go.Kx

def item (W : Nat) (T : Nat → List UInt8) (i : Nat) : List UInt8 := be (T i).length W ++ (T i ++ be i W)
def tot (W : Nat) (T : Nat → List UInt8) (k : Nat) : List UInt8 := ((List.range k).map (item W T)).flatten
def suf (W : Nat) (T : Nat → List UInt8) (M k : Nat) : List UInt8 := (((List.range M).map (item W T)).drop k).flatten

theorem item_length (W : Nat) (T : Nat → List UInt8) (i : Nat) : (item W T i).length = 2 * W + (T i).length := by
  unfold item
  rw [List.length_append, List.length_append, be_length, be_length]
  omega
theorem tot_succ (W : Nat) (T : Nat → List UInt8) (k : Nat) : tot W T (k + 1) = tot W T k ++ be (T k).length W ++ T k ++ be k W := by
  unfold tot item
  rw [List.range_succ, List.map_append, List.flatten_append]
  simp
theorem tot_le (W : Nat) (T : Nat → List UInt8) (hW : W ≤ 4) (hT : ∀ i, (T i).length ≤ 60) (k : Nat) : (tot W T k).length ≤ k * 68 := by
  induction k with
  | zero => simp [tot]
  | succ k ih =>
    rw [tot_succ]
    simp only [List.length_append, be_length]
    have := hT k
    omega
theorem suf_zero (W : Nat) (T : Nat → List UInt8) (M : Nat) : suf W T M 0 = tot W T M := rfl
theorem suf_end (W : Nat) (T : Nat → List UInt8) (M : Nat) : suf W T M M = [] := by
  unfold suf
  rw [List.drop_of_length_le (by simp)]
  rfl
theorem suf_step (W : Nat) (T : Nat → List UInt8) (M k : Nat) (h : k < M) : suf W T M k = be (T k).length W ++ (T k ++ (be k W ++ suf W T M (k + 1))) := by
  unfold suf
  rw [List.drop_eq_getElem_cons (by simpa using h), List.flatten_cons]
  simp [item]
theorem suf_le (W : Nat) (T : Nat → List UInt8) (M k : Nat) : (suf W T M k).length ≤ (tot W T M).length := by
  unfold suf tot
  generalize (List.range M).map (item W T) = xs
  induction k generalizing xs with
  | zero => simp
  | succ k ih =>
    cases xs with
    | nil => simp
    | cons a t =>
      rw [List.drop_succ_cons, List.flatten_cons, List.length_append]
      have := ih t
      omega
theorem suf_len (W : Nat) (T : Nat → List UInt8) (M k : Nat) (h : k < M) : (suf W T M k).length = 2 * W + (T k).length + (suf W T M (k + 1)).length := by
  rw [suf_step W T M k h]
  simp only [List.length_append, be_length]
  omega
/-- What the reads tell. -/
theorem suf_vec (W : Nat) (T : Nat → List UInt8) (M k : Nat) (h : k < M) (hW : 1 ≤ W ∧ W ≤ 4) (hT : (T k).length ≤ 60) : vecS (suf W T M k) 0 (W : Int) 0 60 = (T k, be k W ++ suf W T M (k + 1), 0) := by
  rw [suf_step W T M k h]
  refine vec_read hW ?_ (by omega) (by omega)
  have : 256 ^ 1 ≤ 256 ^ W := Nat.pow_le_pow_right (by decide) hW.1
  omega
theorem suf_num (W : Nat) (k : Nat) (t : List UInt8) (hW : 1 ≤ W ∧ W ≤ 4) (hk : k < 20) :
    beN (outS (be k W ++ t) (wb 0 (W : Int)) (W : Int)) = k ∧ leftS (be k W ++ t) (wb 0 (W : Int)) (W : Int) = t ∧ badS (be k W ++ t) (wb 0 (W : Int)) (W : Int) = 0 := by
  rw [wb_ok hW]
  obtain ⟨h1, h2, h3⟩ := S_app (be k W) t (W : Int) (by rw [be_length])
  have : 256 ^ 1 ≤ 256 ^ W := Nat.pow_le_pow_right (by decide) hW.1
  rw [h2, beN_be (by omega)]
  exact ⟨rfl, h3, h1⟩

/-- What the walk is told of a row of rows of bytes. -/
def IsRows (w : World) (a : Option Addr) (len cap : Nat) : Prop :=
  (a = none ∧ len = 0 ∧ cap = 0) ∨
  ∃ (x : Addr) (A : Nat → Option Addr) (L C : Nat → Nat) (Z : Nat → List Int), a = some x ∧ len ≤ cap ∧ cap ≤ maxLen ∧ ∀ r, r < cap → w.cell? (x.add r) = some (.slice (A r) (L r) (C r)) ∧ L r ≤ C r ∧ C r ≤ maxLen ∧ (Z r).length = C r ∧ (∀ n ∈ Z r, (Lit.int .u8 n).wf = true) ∧ (A r = none → C r = 0) ∧
    ∀ a', A r = some a' → ∀ c, c < C r → w.cell? (a'.add c) = some (.int .u8 ((Z r).getD c 0))

/-- .. in our words: each row's bytes by its index. -/
theorem open_rows {w : World} {a : Option Addr} {len cap : Nat} (h : IsRows w a len cap) :
    ∃ F : Nat → List UInt8, ∀ r, r < len → ∃ b o q n c, a = some ⟨b, o, none⟩ ∧ len ≤ cap ∧ cap ≤ maxLen ∧ w.cell? ⟨b, o + r, none⟩ = some (.slice q n c) ∧ Rd w (· < w.heap.size) q (F r) ∧ (F r).length = n ∧ n ≤ c ∧ c ≤ maxLen ∧ (q = none → c = 0) := by
  have key : ∀ r : Nat, ∃ l : List UInt8, r < len → ∃ b o q n c, a = some ⟨b, o, none⟩ ∧ len ≤ cap ∧ cap ≤ maxLen ∧ w.cell? ⟨b, o + r, none⟩ = some (.slice q n c) ∧ Rd w (· < w.heap.size) q l ∧ l.length = n ∧ n ≤ c ∧ c ≤ maxLen ∧ (q = none → c = 0) := by
    intro r
    by_cases hr : r < len
    · rcases h with ⟨_, h, _⟩ | ⟨⟨b, o, sp⟩, A, L, C, Z, rfl, h1, h2, h3⟩
      · omega
      · have hsp : sp = none := by
          have := World.cell?_spot (h3 0 (by omega)).1
          simpa [Addr.add] using this
        subst hsp
        obtain ⟨q1, q2, q3, q4, q5, q6, q7⟩ := h3 r (by omega)
        have hrow : IsRow .u8 w (A r) (L r) (C r) (Z r) := by
          cases hA : A r with
          | none =>
            have hC := q6 hA
            exact .inl ⟨rfl, by omega, hC, List.eq_nil_of_length_eq_zero (by omega)⟩
          | some a' => exact .inr ⟨a', rfl, q2, q3, q4, fun i hi => q7 a' hA i (by omega), q5⟩
        obtain ⟨l, e1, e2, e3, e4, e5⟩ := open_bytes hrow
        refine ⟨l, fun _ => ⟨b, o, A r, L r, C r, rfl, h1, h2, ?_, e1, e2, e3, e4, e5⟩⟩
        have : (⟨b, o, none⟩ : Addr).add r = ⟨b, o + r, none⟩ := by unfold Addr.add; split <;> simp_all
        rw [← this]
        exact q1
    · exact ⟨[], fun h => absurd h hr⟩
  exact Classical.axiomOfChoice key
end Go.Proofs.Ytmmifenihjmmiaa
