/-
  What PutUint and PutVector tell, in one form for all arguments; what is put is read again. Conditions: together at most 2 to the 47th bytes.
-/
import Derived.Test.YtmmifenihjmmiaaRefB
import Derived.Test.YtmmifenihjmmiaaRefC
import Derived.Test.YtmmifenihjmmiaaRefD
namespace Go.Proofs.Ytmmifenihjmmiaa
open Go.RowKit Go.Kx

def putS (l : List UInt8) (n width : Int) : List UInt8 := if putOk n width then l ++ be n.toNat width.toNat else []
def vecP (l v : List UInt8) (width : Int) : List UInt8 := if putOk (v.length : Int) width then l ++ be v.length width.toNat ++ v else []
/-- Some slice that is told: nil, or a new row. -/
def AnyR (w : World) (X : List UInt8) (e : Ending) (w' : World) : Prop := ∃ g p n c, e = .returned (.slice p n c) ∧ X.length = n ∧ w.heap.size ≤ g ∧ Own w' g (.slice p n c) X ∧ Below w.heap.size w w'
def RAnyR (w : World) (X : List UInt8) (ok : Bool) (e : Ending) (w' : World) : Prop := ∃ g p n c, e = .returned (.tuple #[.slice p n c, .bool ok]) ∧ X.length = n ∧ w.heap.size ≤ g ∧ Own w' g (.slice p n c) X ∧ Below w.heap.size w w'

theorem any_no {w w' : World} {e : Ending} (h : PutNo w e w') : AnyR w [] e w' := by
  obtain ⟨rfl, hb⟩ := h
  exact ⟨w'.heap.size, none, 0, 0, rfl, rfl, hb.size, Own.nil _ _, hb⟩
theorem any_yes {w w' : World} {X : List UInt8} {e : Ending} (h : PutYes w X e w') : AnyR w X e w' := by
  obtain ⟨g, n, c, rfl, h1, h2, h3, h4, h5, h6, h7⟩ := h
  exact ⟨g, _, n, c, rfl, h1, h2, h6, h7⟩
theorem rany_no {w w' : World} {e : Ending} (h : RPutNo w e w') : RAnyR w [] false e w' := by
  obtain ⟨rfl, hb⟩ := h
  exact ⟨w'.heap.size, none, 0, 0, rfl, rfl, hb.size, Own.nil _ _, hb⟩
theorem rany_yes {w w' : World} {X : List UInt8} {e : Ending} (h : RPutYes w X e w') : RAnyR w X true e w' := by
  obtain ⟨g, n, c, rfl, h1, h2, h3, h4, h5, h6, h7⟩ := h
  exact ⟨g, _, n, c, rfl, h1, h2, h6, h7⟩

theorem putOk_nat {n W : Nat} : putOk (n : Int) (W : Int) ↔ (1 ≤ W ∧ W ≤ 4) ∧ n < 256 ^ W := by
  unfold putOk
  have : ((n : Int) < 256 ^ ((W : Int)).toNat) ↔ n < 256 ^ W := by
    rw [Int.toNat_natCast, show ((256 : Int) ^ W) = ((256 ^ W : Nat) : Int) by simp]
    omega
  rw [this]
  constructor
  · rintro ⟨h1, _, h3⟩; exact ⟨by omega, h3⟩
  · rintro ⟨h1, h3⟩; exact ⟨by omega, by omega, h3⟩

theorem put_any (S : Nat → Prop) (p : Option Addr) (m c : Nat) (l : List UInt8) (n width : Int) (w : World) (hR : Rd w S p l) (hp : p = none → c = 0) (hl : l.length + 4 ≤ 140737488355328) (hm : l.length = m) :
    Calls Try.prog 7 #[.slice p m c, .int .i64 n, .int .i64 width] w (AnyR w (putS l n width)) := by
  by_cases h : putOk n width
  · obtain ⟨N, rfl⟩ : ∃ N : Nat, n = N := ⟨n.toNat, by have := h.2.1; omega⟩
    obtain ⟨W, rfl⟩ : ∃ W : Nat, width = W := ⟨width.toNat, by have := h.1; omega⟩
    obtain ⟨h1, h2⟩ := putOk_nat.1 h
    have : putS l (N : Int) (W : Int) = l ++ be N W := by unfold putS; rw [if_pos h]; simp
    rw [this]
    exact (put_yes S p m c l N W w hR hp hl hm h1 h2).mono fun e w' hh => any_yes hh
  · have : putS l n width = [] := by unfold putS; rw [if_neg h]
    rw [this]
    exact (put_no _ n width w h).mono fun e w' hh => any_no hh

theorem rput_any (S : Nat → Prop) (p : Option Addr) (m c : Nat) (l : List UInt8) (n width : Int) (w : World) (hR : Rd w S p l) (hp : p = none → c = 0) (hl : l.length + 4 ≤ 140737488355328) (hm : l.length = m) :
    Calls Try.prog 16 #[.slice p m c, .int .i64 n, .int .i64 width] w (RAnyR w (putS l n width) (decide (putOk n width))) := by
  by_cases hg : (1 ≤ width ∧ width ≤ 4) ∧ 0 ≤ n
  · obtain ⟨N, rfl⟩ : ∃ N : Nat, n = N := ⟨n.toNat, by omega⟩
    obtain ⟨W, rfl⟩ : ∃ W : Nat, width = W := ⟨width.toNat, by omega⟩
    refine (rput_c S p m c l N W w hR hp hl hm (by omega)).mono ?_
    rintro e w' ⟨h1, h2⟩
    by_cases h : N < 256 ^ W
    · have hk : putOk (N : Int) (W : Int) := putOk_nat.2 ⟨by omega, h⟩
      have : putS l (N : Int) (W : Int) = l ++ be N W := by unfold putS; rw [if_pos hk]; simp
      rw [this, decide_eq_true hk]
      exact rany_yes (h1 h)
    · have hk : ¬ putOk (N : Int) (W : Int) := fun hh => h (putOk_nat.1 hh).2
      have : putS l (N : Int) (W : Int) = [] := by unfold putS; rw [if_neg hk]
      rw [this, decide_eq_false hk]
      exact rany_no (h2 h)
  · have hk : ¬ putOk n width := fun hh => hg ⟨hh.1, hh.2.1⟩
    have : putS l n width = [] := by unfold putS; rw [if_neg hk]
    rw [this, decide_eq_false hk]
    exact (rput_bad _ n width w hg).mono fun e w' hh => rany_no hh

theorem vec_any (S S2 : Nat → Prop) (p p2 : Option Addr) (m c m2 c2 : Nat) (l v : List UInt8) (width : Int) (w : World) (hR : Rd w S p l) (hp : p = none → c = 0) (hm : l.length = m) (hR2 : Rd w S2 p2 v) (hp2 : p2 = none → c2 = 0) (hm2 : v.length = m2)
    (hl : l.length + 4 + v.length ≤ 140737488355328) :
    Calls Try.prog 8 #[.slice p m c, .slice p2 m2 c2, .int .i64 width] w (AnyR w (vecP l v width)) := by
  subst hm2
  by_cases h : putOk (v.length : Int) width
  · obtain ⟨W, rfl⟩ : ∃ W : Nat, width = W := ⟨width.toNat, by have := h.1; omega⟩
    obtain ⟨h1, h2⟩ := putOk_nat.1 h
    have : vecP l v (W : Int) = l ++ be v.length W ++ v := by unfold vecP; rw [if_pos h]; simp
    rw [this]
    exact (vec_yes S S2 p p2 m c _ c2 l v W w hR hp hm hR2 hp2 rfl hl h1 h2).mono fun e w' hh => any_yes hh
  · have : vecP l v width = [] := by unfold vecP; rw [if_neg h]
    rw [this]
    exact (vec_no _ p2 _ c2 width w h).mono fun e w' hh => any_no hh

theorem rvec_any (S S2 : Nat → Prop) (p p2 : Option Addr) (m c m2 c2 : Nat) (l v : List UInt8) (width : Int) (w : World) (hR : Rd w S p l) (hp : p = none → c = 0) (hm : l.length = m) (hR2 : Rd w S2 p2 v) (hp2 : p2 = none → c2 = 0) (hm2 : v.length = m2)
    (hl : l.length + 4 + v.length ≤ 140737488355328) :
    Calls Try.prog 17 #[.slice p m c, .slice p2 m2 c2, .int .i64 width] w (RAnyR w (vecP l v width) (decide (putOk (v.length : Int) width))) := by
  subst hm2
  by_cases hg : 1 ≤ width ∧ width ≤ 4
  · obtain ⟨W, rfl⟩ : ∃ W : Nat, width = W := ⟨width.toNat, by omega⟩
    refine (rvec_c S S2 p p2 m c _ c2 l v W w hR hp hm hR2 hp2 rfl hl (by omega)).mono ?_
    rintro e w' ⟨h1, h2⟩
    by_cases h : v.length < 256 ^ W
    · have hk : putOk (v.length : Int) (W : Int) := putOk_nat.2 ⟨by omega, h⟩
      have : vecP l v (W : Int) = l ++ be v.length W ++ v := by unfold vecP; rw [if_pos hk]; simp
      rw [this, decide_eq_true hk]
      exact rany_yes (h1 h)
    · have hk : ¬ putOk (v.length : Int) (W : Int) := fun hh => h (putOk_nat.1 hh).2
      have : vecP l v (W : Int) = [] := by unfold vecP; rw [if_neg hk]
      rw [this, decide_eq_false hk]
      exact rany_no (h2 h)
  · have hk : ¬ putOk (v.length : Int) width := fun hh => hg hh.1
    have : vecP l v width = [] := by unfold vecP; rw [if_neg hk]
    rw [this, decide_eq_false hk]
    exact (rvec_bad _ p2 _ c2 width w hg).mono fun e w' hh => rany_no hh

/-! ### What is put is read again -/
theorem foldl_ben (n k acc : Nat) : (be n k).foldl (fun n b => n * 256 + b.toNat) acc = acc * 256 ^ k + n % 256 ^ k := by
  induction k generalizing acc with
  | zero => simp [be, Nat.mod_one]
  | succ k ih =>
    simp only [be, List.foldl_cons]
    have h2 : n % 256 ^ (k + 1) = n % 256 ^ k + 256 ^ k * (n / 256 ^ k % 256) := by rw [Nat.pow_succ, Nat.mod_mul]
    rw [ih, UInt8.toNat_ofNat', h2, Nat.pow_succ 256 k]
    have h1 : (acc * 256 + n / 256 ^ k % 2 ^ 8) * 256 ^ k = acc * (256 ^ k * 256) + 256 ^ k * (n / 256 ^ k % 256) := by
      rw [Nat.add_mul, Nat.mul_assoc, Nat.mul_comm 256 (256 ^ k), Nat.mul_comm (n / 256 ^ k % 2 ^ 8)]
    rw [h1]
    omega
theorem beN_be {n k : Nat} (h : n < 256 ^ k) : beN (be n k) = n := by
  unfold beN
  rw [foldl_ben, Nat.mod_eq_of_lt h]
  omega
theorem S_app (a b : List UInt8) (n : Int) (h : (a.length : Int) = n) : badS (a ++ b) 0 n = 0 ∧ outS (a ++ b) 0 n = a ∧ leftS (a ++ b) 0 n = b := by
  subst h
  have hb : badS (a ++ b) 0 (a.length : Int) = 0 := by unfold badS; rw [if_neg (by omega), if_neg (by rw [List.length_append]; omega)]
  refine ⟨hb, ?_, ?_⟩
  · unfold outS; rw [if_pos hb]; simp
  · unfold leftS; rw [if_pos hb]; simp
theorem wb_ok {W : Nat} (h : 1 ≤ W ∧ W ≤ 4) (bad : Int) : wb bad (W : Int) = bad := by unfold wb; rw [if_pos (by omega)]
theorem vec_read {v t : List UInt8} {W : Nat} {least most : Int} (hW : 1 ≤ W ∧ W ≤ 4) (h : v.length < 256 ^ W) (h1 : least ≤ (v.length : Int)) (h2 : (v.length : Int) ≤ most) : vecS (be v.length W ++ (v ++ t)) 0 (W : Int) least most = (v, t, 0) := by
  obtain ⟨a1, a2, a3⟩ := S_app (be v.length W) (v ++ t) (W : Int) (by rw [be_length])
  obtain ⟨b1, b2, b3⟩ := S_app v t (v.length : Int) rfl
  unfold vecS
  simp only [wb_ok hW, a1, a2, a3, beN_be h, b1, b2, b3]
  rw [if_neg (by omega)]
end Go.Proofs.Ytmmifenihjmmiaa
