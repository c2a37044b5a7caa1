/-
  Numbers of 64 bits, unsigned, as Lean's own UInt64: what the operators tell of them. Of any program; no condition but those that each theorem states.
-/
import Derived.Test.YtegmimnhkohaoaaW32
import Derived.WalkKit
import Derived.WalkSpells
import Derived.WalkLawsBesides
import Derived.Lib.Hide
import Derived.Deep.QuietTactic
import Derived.BigQuiet
namespace Go.Kx
open Go.RowKit

/-- A number of 64 bits. -/
def D (x : UInt64) : Value := .int .u64 (x.toNat : Int)
theorem D_def (x : UInt64) : D x = .int .u64 (x.toNat : Int) := rfl

theorem wrap_u64 (n : Nat) : IntKind.u64.wrap (n : Int) = ((n % 18446744073709551616 : Nat) : Int) := by
  unfold IntKind.wrap
  simp [IntKind.bits, IntKind.signed]

section
variable {P : Program} {w : World} {t : TypeId} (x y : UInt64)
theorem D_add : (binOp .add t (D x) (D y)).run P w = .ok (D (x + y)) w := by
  have h : IntKind.u64.wrap ((x.toNat : Int) + (y.toNat : Int)) = ((x + y).toNat : Int) := by
    rw [← Int.natCast_add, wrap_u64, UInt64.toNat_add]
  show Sem.run P (pure (Value.int .u64 (IntKind.u64.wrap _))) w = _
  rw [h]; rfl
theorem D_mul : (binOp .mul t (D x) (D y)).run P w = .ok (D (x * y)) w := by
  have h : IntKind.u64.wrap ((x.toNat : Int) * (y.toNat : Int)) = ((x * y).toNat : Int) := by
    rw [← Int.natCast_mul, wrap_u64, UInt64.toNat_mul]
  show Sem.run P (pure (Value.int .u64 (IntKind.u64.wrap _))) w = _
  rw [h]; rfl
theorem ofInt64 (x : UInt64) : (BitVec.ofInt 64 (x.toNat : Int) : BitVec 64) = x.toBitVec := by
  apply BitVec.eq_of_toNat_eq
  rw [BitVec.toNat_ofInt]
  have h := x.toNat_lt
  simp
  omega
theorem D_xor : (binOp .xor t (D x) (D y)).run P w = .ok (D (x ^^^ y)) w := by
  show Sem.run P (pure (Value.int .u64 (IntKind.u64.wrap (((BitVec.ofInt 64 (x.toNat : Int) ^^^ BitVec.ofInt 64 (y.toNat : Int)) : BitVec 64).toNat : Int)))) w = _
  rw [ofInt64, ofInt64, wrap_u64, Nat.mod_eq_of_lt (x.toBitVec ^^^ y.toBitVec).isLt]; rfl
theorem D_or : (binOp .or t (D x) (D y)).run P w = .ok (D (x ||| y)) w := by
  show Sem.run P (pure (Value.int .u64 (IntKind.u64.wrap (((BitVec.ofInt 64 (x.toNat : Int) ||| BitVec.ofInt 64 (y.toNat : Int)) : BitVec 64).toNat : Int)))) w = _
  rw [ofInt64, ofInt64, wrap_u64, Nat.mod_eq_of_lt (x.toBitVec ||| y.toBitVec).isLt]; rfl
theorem D_and : (binOp .and t (D x) (D y)).run P w = .ok (D (x &&& y)) w := by
  show Sem.run P (pure (Value.int .u64 (IntKind.u64.wrap (((BitVec.ofInt 64 (x.toNat : Int) &&& BitVec.ofInt 64 (y.toNat : Int)) : BitVec 64).toNat : Int)))) w = _
  rw [ofInt64, ofInt64, wrap_u64, Nat.mod_eq_of_lt (x.toBitVec &&& y.toBitVec).isLt]; rfl
/-- Shifts by whatever a count. -/
def shl64 (x : UInt64) (n : Nat) : UInt64 := UInt64.ofNat (x.toNat * 2 ^ n)
def shr64 (x : UInt64) (n : Nat) : UInt64 := UInt64.ofNat (x.toNat / 2 ^ n)
theorem shl64_min (x : UInt64) (n : Nat) : shl64 x (min n 64) = shl64 x n := by
  by_cases h : n ≤ 64
  · rw [Nat.min_eq_left h]
  · rw [Nat.min_eq_right (by omega)]
    unfold shl64
    obtain ⟨k, rfl⟩ : ∃ k, n = 64 + k := ⟨n - 64, by omega⟩
    apply UInt64.toNat_inj.1
    rw [UInt64.toNat_ofNat', UInt64.toNat_ofNat', Nat.pow_add, ← Nat.mul_assoc]
    rw [Nat.mul_mod_left, show x.toNat * 2 ^ 64 * 2 ^ k = x.toNat * 2 ^ k * 2 ^ 64 by rw [Nat.mul_assoc, Nat.mul_comm (2 ^ 64), ← Nat.mul_assoc], Nat.mul_mod_left]
theorem shr64_min (x : UInt64) (n : Nat) : shr64 x (min n 64) = shr64 x n := by
  by_cases h : n ≤ 64
  · rw [Nat.min_eq_left h]
  · rw [Nat.min_eq_right (by omega)]
    unfold shr64
    have h1 : x.toNat < 2 ^ 64 := x.toNat_lt
    have h2 : 2 ^ 64 ≤ 2 ^ n := Nat.pow_le_pow_right (by decide) (by omega)
    rw [Nat.div_eq_of_lt h1, Nat.div_eq_of_lt (by omega)]
theorem D_shl (k : IntKind) (n : Int) (h : 0 ≤ n) : (binOp .shl t (D x) (.int k n)).run P w = .ok (D (shl64 x n.toNat)) w := by
  have h0 : ¬ n < 0 := by omega
  have e : (binOp .shl t (D x) (.int k n)) = pure (.int .u64 (IntKind.u64.wrap ((x.toNat : Int) * 2 ^ (min n.toNat 64)))) := by
    show Op.shift .shl .u64 (x.toNat : Int) k n = _
    unfold Op.shift
    rw [if_neg h0]
    rfl
  rw [e, ← shl64_min]
  have h1 : ((x.toNat : Int) * 2 ^ (min n.toNat 64)) = ((x.toNat * 2 ^ (min n.toNat 64) : Nat) : Int) := by simp
  rw [h1, wrap_u64]
  unfold shl64 D
  rw [UInt64.toNat_ofNat']
  rfl
theorem D_shr (k : IntKind) (n : Int) (h : 0 ≤ n) : (binOp .shr t (D x) (.int k n)).run P w = .ok (D (shr64 x n.toNat)) w := by
  have h0 : ¬ n < 0 := by omega
  have e : (binOp .shr t (D x) (.int k n)) = pure (.int .u64 ((x.toNat : Int).fdiv (2 ^ (min n.toNat 64)))) := by
    show Op.shift .shr .u64 (x.toNat : Int) k n = _
    unfold Op.shift
    rw [if_neg h0]
    rfl
  rw [e, ← shr64_min]
  have h1 : ((x.toNat : Int).fdiv (2 ^ (min n.toNat 64))) = ((x.toNat / 2 ^ (min n.toNat 64) : Nat) : Int) := by
    rw [Int.fdiv_eq_ediv_of_nonneg _ (by exact Int.le_of_lt (Int.pow_pos (by decide)))]
    simp
  rw [h1]
  unfold shr64 D
  rw [UInt64.toNat_ofNat', Nat.mod_eq_of_lt]
  · rfl
  · exact Nat.lt_of_le_of_lt (Nat.div_le_self _ _) x.toNat_lt
theorem D_not : (Op.unary .xor (D x)).run P w = .ok (D (~~~ x)) w := by
  show Sem.run P (pure (Value.int .u64 (IntKind.u64.wrap (((BitVec.ofInt 64 (18446744073709551615 : Int) ^^^ BitVec.ofInt 64 (x.toNat : Int)) : BitVec 64).toNat : Int)))) w = _
  have e : (BitVec.ofInt 64 (18446744073709551615 : Int) ^^^ x.toBitVec : BitVec 64) = ~~~ x.toBitVec := by
    rw [show (BitVec.ofInt 64 (18446744073709551615 : Int)) = BitVec.allOnes 64 from rfl, BitVec.allOnes_xor]
  rw [ofInt64, e, wrap_u64, Nat.mod_eq_of_lt (~~~ x.toBitVec).isLt]; rfl
end

section
variable {P : Program} {w : World} {t : TypeId} (x y : UInt64)
theorem D_sub : (binOp .sub t (D x) (D y)).run P w = .ok (D (x - y)) w := by
  have h : IntKind.u64.wrap ((x.toNat : Int) - (y.toNat : Int)) = ((x - y).toNat : Int) := by
    have h1 := x.toNat_lt
    have h2 := y.toNat_lt
    rw [UInt64.toNat_sub]
    unfold IntKind.wrap
    simp [IntKind.bits, IntKind.signed]
    omega
  show Sem.run P (pure (Value.int .u64 (IntKind.u64.wrap _))) w = _
  rw [h]; rfl
theorem D_lss : (binOp .lss t (D x) (D y)).run P w = .ok (.bool (decide (x < y))) w := by
  show Sem.run P (pure (Value.bool (decide ((x.toNat : Int) < (y.toNat : Int))))) w = _
  rw [show decide ((x.toNat : Int) < (y.toNat : Int)) = decide (x < y) from decide_eq_decide.2 (by rw [UInt64.lt_iff_toNat_lt]; omega)]; rfl
theorem D_eql : (binOp .eql t (D x) (D y)).run P w = .ok (.bool (decide (x = y))) w := by
  show Sem.run P (pure (Value.bool ((x.toNat : Int) == (y.toNat : Int)))) w = _
  rw [show ((x.toNat : Int) == (y.toNat : Int)) = decide (x = y) from by rw [Bool.eq_iff_iff]; simp only [beq_iff_eq, decide_eq_true_eq]; rw [← UInt64.toNat_inj]; omega]; rfl
theorem D_neq : (binOp .neq t (D x) (D y)).run P w = .ok (.bool (!decide (x = y))) w := by
  show Sem.run P (pure (Value.bool ((x.toNat : Int) != (y.toNat : Int)))) w = _
  rw [show ((x.toNat : Int) != (y.toNat : Int)) = !decide (x = y) from by rw [bne, show ((x.toNat : Int) == (y.toNat : Int)) = decide (x = y) from by rw [Bool.eq_iff_iff]; simp only [beq_iff_eq, decide_eq_true_eq]; rw [← UInt64.toNat_inj]; omega]]; rfl
theorem D_rem (h : y ≠ 0) : (binOp .rem t (D x) (D y)).run P w = .ok (D (x % y)) w := by
  have h0 : ¬ ((y.toNat : Int) = 0) := fun e => h (UInt64.toNat_inj.1 (show y.toNat = (0 : UInt64).toNat by rw [show (0 : UInt64).toNat = 0 from rfl]; omega))
  have e : (binOp .rem t (D x) (D y)) = pure (.int .u64 ((x.toNat : Int).tmod (y.toNat : Int))) := by
    show Op.intDiv .rem .u64 (x.toNat : Int) (y.toNat : Int) = _
    unfold Op.intDiv
    rw [if_neg h0]
  rw [e, show ((x.toNat : Int).tmod (y.toNat : Int)) = ((x % y).toNat : Int) from by rw [UInt64.toNat_mod]; rfl]; rfl
theorem D_quo (h : y ≠ 0) : (binOp .quo t (D x) (D y)).run P w = .ok (D (x / y)) w := by
  have h0 : ¬ ((y.toNat : Int) = 0) := fun e => h (UInt64.toNat_inj.1 (show y.toNat = (0 : UInt64).toNat by rw [show (0 : UInt64).toNat = 0 from rfl]; omega))
  have e : (binOp .quo t (D x) (D y)) = pure (.int .u64 (IntKind.u64.wrap ((x.toNat : Int).tdiv (y.toNat : Int)))) := by
    show Op.intDiv .quo .u64 (x.toNat : Int) (y.toNat : Int) = _
    unfold Op.intDiv
    rw [if_neg h0]
  have h2 : IntKind.u64.wrap ((x.toNat : Int).tdiv (y.toNat : Int)) = ((x / y).toNat : Int) := by
    rw [UInt64.toNat_div, show ((x.toNat : Int).tdiv (y.toNat : Int)) = ((x.toNat / y.toNat : Nat) : Int) from rfl, wrap_u64, Nat.mod_eq_of_lt (Nat.lt_of_le_of_lt (Nat.div_le_self _ _) x.toNat_lt)]
  rw [e, h2]; rfl
end
theorem D_guard1 (t : TypeId) (x y : Operand) (a b : UInt64) : eqGuard .eql t x y (D a) (D b) = pure () := rfl
theorem D_guard2 (t : TypeId) (x y : Operand) (a b : UInt64) : eqGuard .neq t x y (D a) (D b) = pure () := rfl
theorem D_store {P : Program} {w : World} (a : Addr) (m : Mode) (x : UInt64) : (store a (D x) m).run P w = stored P w a (D x) m := run_store P w a _ m rfl
theorem D_one (x : UInt64) : (D x).oneCell' = true := rfl
theorem D_cells (x : UInt64) : (D x).cells = #[D x] := rfl
/-- A number that is written out. -/
theorem D_of (n : Nat) (h : n < 18446744073709551616) : Value.int .u64 (n : Int) = D (UInt64.ofNat n) := by
  unfold D
  rw [UInt64.toNat_ofNat', Nat.mod_eq_of_lt h]

/-- A turn to the right, of 64 bits. -/
def rotr64 (x : UInt64) (n : Nat) : UInt64 := shl64 x (64 - n) ||| shr64 x n
end Go.Kx
