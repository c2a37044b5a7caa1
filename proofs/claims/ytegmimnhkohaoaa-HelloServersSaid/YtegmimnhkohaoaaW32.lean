/-
  Numbers of 32 bits as Lean's own UInt32: what the operators tell of them. Of any program; no condition but those that each theorem states.
-/
import Derived.WalkKit
import Derived.WalkSpells
import Derived.WalkLawsBesides
import Derived.Lib.Hide
import Derived.Deep.QuietTactic
import Derived.BigQuiet
namespace Go.Kx
open Go.RowKit

/-- A number of 32 bits. -/
def U (x : UInt32) : Value := .int .u32 (x.toNat : Int)
theorem U_def (x : UInt32) : U x = .int .u32 (x.toNat : Int) := rfl

theorem wrap_u32 (n : Nat) : IntKind.u32.wrap (n : Int) = ((n % 4294967296 : Nat) : Int) := by
  unfold IntKind.wrap
  simp [IntKind.bits, IntKind.signed]

section
variable {P : Program} {w : World} {t : TypeId} (x y : UInt32)
theorem U_add : (binOp .add t (U x) (U y)).run P w = .ok (U (x + y)) w := by
  have h : IntKind.u32.wrap ((x.toNat : Int) + (y.toNat : Int)) = ((x + y).toNat : Int) := by
    rw [← Int.natCast_add, wrap_u32, UInt32.toNat_add]
  show Sem.run P (pure (Value.int .u32 (IntKind.u32.wrap _))) w = _
  rw [h]; rfl
theorem U_mul : (binOp .mul t (U x) (U y)).run P w = .ok (U (x * y)) w := by
  have h : IntKind.u32.wrap ((x.toNat : Int) * (y.toNat : Int)) = ((x * y).toNat : Int) := by
    rw [← Int.natCast_mul, wrap_u32, UInt32.toNat_mul]
  show Sem.run P (pure (Value.int .u32 (IntKind.u32.wrap _))) w = _
  rw [h]; rfl
theorem ofInt32 (x : UInt32) : (BitVec.ofInt 32 (x.toNat : Int) : BitVec 32) = x.toBitVec := by
  apply BitVec.eq_of_toNat_eq
  rw [BitVec.toNat_ofInt]
  have h := x.toNat_lt
  simp
  omega
theorem U_xor : (binOp .xor t (U x) (U y)).run P w = .ok (U (x ^^^ y)) w := by
  show Sem.run P (pure (Value.int .u32 (IntKind.u32.wrap (((BitVec.ofInt 32 (x.toNat : Int) ^^^ BitVec.ofInt 32 (y.toNat : Int)) : BitVec 32).toNat : Int)))) w = _
  rw [ofInt32, ofInt32, wrap_u32, Nat.mod_eq_of_lt (x.toBitVec ^^^ y.toBitVec).isLt]; rfl
theorem U_or : (binOp .or t (U x) (U y)).run P w = .ok (U (x ||| y)) w := by
  show Sem.run P (pure (Value.int .u32 (IntKind.u32.wrap (((BitVec.ofInt 32 (x.toNat : Int) ||| BitVec.ofInt 32 (y.toNat : Int)) : BitVec 32).toNat : Int)))) w = _
  rw [ofInt32, ofInt32, wrap_u32, Nat.mod_eq_of_lt (x.toBitVec ||| y.toBitVec).isLt]; rfl
theorem U_and : (binOp .and t (U x) (U y)).run P w = .ok (U (x &&& y)) w := by
  show Sem.run P (pure (Value.int .u32 (IntKind.u32.wrap (((BitVec.ofInt 32 (x.toNat : Int) &&& BitVec.ofInt 32 (y.toNat : Int)) : BitVec 32).toNat : Int)))) w = _
  rw [ofInt32, ofInt32, wrap_u32, Nat.mod_eq_of_lt (x.toBitVec &&& y.toBitVec).isLt]; rfl
/-- Shifts by whatever a count. -/
def shl32 (x : UInt32) (n : Nat) : UInt32 := UInt32.ofNat (x.toNat * 2 ^ n)
def shr32 (x : UInt32) (n : Nat) : UInt32 := UInt32.ofNat (x.toNat / 2 ^ n)
theorem shl32_min (x : UInt32) (n : Nat) : shl32 x (min n 32) = shl32 x n := by
  by_cases h : n ≤ 32
  · rw [Nat.min_eq_left h]
  · rw [Nat.min_eq_right (by omega)]
    unfold shl32
    obtain ⟨k, rfl⟩ : ∃ k, n = 32 + k := ⟨n - 32, by omega⟩
    apply UInt32.toNat_inj.1
    rw [UInt32.toNat_ofNat', UInt32.toNat_ofNat', Nat.pow_add, ← Nat.mul_assoc]
    rw [Nat.mul_mod_left, show x.toNat * 2 ^ 32 * 2 ^ k = x.toNat * 2 ^ k * 2 ^ 32 by rw [Nat.mul_assoc, Nat.mul_comm (2 ^ 32), ← Nat.mul_assoc], Nat.mul_mod_left]
theorem shr32_min (x : UInt32) (n : Nat) : shr32 x (min n 32) = shr32 x n := by
  by_cases h : n ≤ 32
  · rw [Nat.min_eq_left h]
  · rw [Nat.min_eq_right (by omega)]
    unfold shr32
    have h1 : x.toNat < 2 ^ 32 := x.toNat_lt
    have h2 : 2 ^ 32 ≤ 2 ^ n := Nat.pow_le_pow_right (by decide) (by omega)
    rw [Nat.div_eq_of_lt h1, Nat.div_eq_of_lt (by omega)]
theorem U_shl (k : IntKind) (n : Int) (h : 0 ≤ n) : (binOp .shl t (U x) (.int k n)).run P w = .ok (U (shl32 x n.toNat)) w := by
  have h0 : ¬ n < 0 := by omega
  have e : (binOp .shl t (U x) (.int k n)) = pure (.int .u32 (IntKind.u32.wrap ((x.toNat : Int) * 2 ^ (min n.toNat 32)))) := by
    show Op.shift .shl .u32 (x.toNat : Int) k n = _
    unfold Op.shift
    rw [if_neg h0]
    rfl
  rw [e, ← shl32_min]
  have h1 : ((x.toNat : Int) * 2 ^ (min n.toNat 32)) = ((x.toNat * 2 ^ (min n.toNat 32) : Nat) : Int) := by simp
  rw [h1, wrap_u32]
  unfold shl32 U
  rw [UInt32.toNat_ofNat']
  rfl
theorem U_shr (k : IntKind) (n : Int) (h : 0 ≤ n) : (binOp .shr t (U x) (.int k n)).run P w = .ok (U (shr32 x n.toNat)) w := by
  have h0 : ¬ n < 0 := by omega
  have e : (binOp .shr t (U x) (.int k n)) = pure (.int .u32 ((x.toNat : Int).fdiv (2 ^ (min n.toNat 32)))) := by
    show Op.shift .shr .u32 (x.toNat : Int) k n = _
    unfold Op.shift
    rw [if_neg h0]
    rfl
  rw [e, ← shr32_min]
  have h1 : ((x.toNat : Int).fdiv (2 ^ (min n.toNat 32))) = ((x.toNat / 2 ^ (min n.toNat 32) : Nat) : Int) := by
    rw [Int.fdiv_eq_ediv_of_nonneg _ (by exact Int.le_of_lt (Int.pow_pos (by decide)))]
    simp
  rw [h1]
  unfold shr32 U
  rw [UInt32.toNat_ofNat', Nat.mod_eq_of_lt]
  · rfl
  · exact Nat.lt_of_le_of_lt (Nat.div_le_self _ _) x.toNat_lt
theorem U_not : (Op.unary .xor (U x)).run P w = .ok (U (~~~ x)) w := by
  show Sem.run P (pure (Value.int .u32 (IntKind.u32.wrap (((BitVec.ofInt 32 (4294967295 : Int) ^^^ BitVec.ofInt 32 (x.toNat : Int)) : BitVec 32).toNat : Int)))) w = _
  have e : (BitVec.ofInt 32 (4294967295 : Int) ^^^ x.toBitVec : BitVec 32) = ~~~ x.toBitVec := by
    rw [show (BitVec.ofInt 32 (4294967295 : Int)) = BitVec.allOnes 32 from rfl, BitVec.allOnes_xor]
  rw [ofInt32, e, wrap_u32, Nat.mod_eq_of_lt (~~~ x.toBitVec).isLt]; rfl
end

section
variable {P : Program} {w : World} {t : TypeId} (x y : UInt32)
theorem U_sub : (binOp .sub t (U x) (U y)).run P w = .ok (U (x - y)) w := by
  have h : IntKind.u32.wrap ((x.toNat : Int) - (y.toNat : Int)) = ((x - y).toNat : Int) := by
    have h1 := x.toNat_lt
    have h2 := y.toNat_lt
    rw [UInt32.toNat_sub]
    unfold IntKind.wrap
    simp [IntKind.bits, IntKind.signed]
    omega
  show Sem.run P (pure (Value.int .u32 (IntKind.u32.wrap _))) w = _
  rw [h]; rfl
theorem U_lss : (binOp .lss t (U x) (U y)).run P w = .ok (.bool (decide (x < y))) w := by
  show Sem.run P (pure (Value.bool (decide ((x.toNat : Int) < (y.toNat : Int))))) w = _
  rw [show decide ((x.toNat : Int) < (y.toNat : Int)) = decide (x < y) from decide_eq_decide.2 (by rw [UInt32.lt_iff_toNat_lt]; omega)]; rfl
theorem U_eql : (binOp .eql t (U x) (U y)).run P w = .ok (.bool (decide (x = y))) w := by
  show Sem.run P (pure (Value.bool ((x.toNat : Int) == (y.toNat : Int)))) w = _
  rw [show ((x.toNat : Int) == (y.toNat : Int)) = decide (x = y) from by rw [Bool.eq_iff_iff]; simp only [beq_iff_eq, decide_eq_true_eq]; rw [← UInt32.toNat_inj]; omega]; rfl
theorem U_neq : (binOp .neq t (U x) (U y)).run P w = .ok (.bool (!decide (x = y))) w := by
  show Sem.run P (pure (Value.bool ((x.toNat : Int) != (y.toNat : Int)))) w = _
  rw [show ((x.toNat : Int) != (y.toNat : Int)) = !decide (x = y) from by rw [bne, show ((x.toNat : Int) == (y.toNat : Int)) = decide (x = y) from by rw [Bool.eq_iff_iff]; simp only [beq_iff_eq, decide_eq_true_eq]; rw [← UInt32.toNat_inj]; omega]]; rfl
theorem U_rem (h : y ≠ 0) : (binOp .rem t (U x) (U y)).run P w = .ok (U (x % y)) w := by
  have h0 : ¬ ((y.toNat : Int) = 0) := fun e => h (UInt32.toNat_inj.1 (show y.toNat = (0 : UInt32).toNat by rw [show (0 : UInt32).toNat = 0 from rfl]; omega))
  have e : (binOp .rem t (U x) (U y)) = pure (.int .u32 ((x.toNat : Int).tmod (y.toNat : Int))) := by
    show Op.intDiv .rem .u32 (x.toNat : Int) (y.toNat : Int) = _
    unfold Op.intDiv
    rw [if_neg h0]
  rw [e, show ((x.toNat : Int).tmod (y.toNat : Int)) = ((x % y).toNat : Int) from by rw [UInt32.toNat_mod]; rfl]; rfl
theorem U_quo (h : y ≠ 0) : (binOp .quo t (U x) (U y)).run P w = .ok (U (x / y)) w := by
  have h0 : ¬ ((y.toNat : Int) = 0) := fun e => h (UInt32.toNat_inj.1 (show y.toNat = (0 : UInt32).toNat by rw [show (0 : UInt32).toNat = 0 from rfl]; omega))
  have e : (binOp .quo t (U x) (U y)) = pure (.int .u32 (IntKind.u32.wrap ((x.toNat : Int).tdiv (y.toNat : Int)))) := by
    show Op.intDiv .quo .u32 (x.toNat : Int) (y.toNat : Int) = _
    unfold Op.intDiv
    rw [if_neg h0]
  have h2 : IntKind.u32.wrap ((x.toNat : Int).tdiv (y.toNat : Int)) = ((x / y).toNat : Int) := by
    rw [UInt32.toNat_div, show ((x.toNat : Int).tdiv (y.toNat : Int)) = ((x.toNat / y.toNat : Nat) : Int) from rfl, wrap_u32, Nat.mod_eq_of_lt (Nat.lt_of_le_of_lt (Nat.div_le_self _ _) x.toNat_lt)]
  rw [e, h2]; rfl
end
theorem U_guard1 (t : TypeId) (x y : Operand) (a b : UInt32) : eqGuard .eql t x y (U a) (U b) = pure () := rfl
theorem U_guard2 (t : TypeId) (x y : Operand) (a b : UInt32) : eqGuard .neq t x y (U a) (U b) = pure () := rfl
theorem U_store {P : Program} {w : World} (a : Addr) (m : Mode) (x : UInt32) : (store a (U x) m).run P w = stored P w a (U x) m := run_store P w a _ m rfl
theorem U_one (x : UInt32) : (U x).oneCell' = true := rfl
theorem U_cells (x : UInt32) : (U x).cells = #[U x] := rfl
/-- A number that is written out. -/
theorem U_of (n : Nat) (h : n < 4294967296) : Value.int .u32 (n : Int) = U (UInt32.ofNat n) := by
  unfold U
  rw [UInt32.toNat_ofNat', Nat.mod_eq_of_lt h]

/-- A turn to the right. -/
def rotr (x : UInt32) (n : Nat) : UInt32 := shl32 x (32 - n) ||| shr32 x n
end Go.Kx
