/-
  The contracts of relayref01's turn, bits and consts; what bits tells, as one formula. Condition of turn: a count from 1 to 31.
-/
import Derived.Test.YtegmimnhkohaoaaZg3
namespace Go.Kx
open Go.RowKit
theorem wpList_build_eq {P : Program} {ops : Array Oper} {rest : List Oper} {o : Oper} {a : Act} {w : World} {Q : Exit → Act → World → Prop} (hg : o.guard = none) (t : TypeId) (parts : Array (Nat × Operand)) (ho : o.op = .build t parts)
    {C : Array Value} {l : List (Nat × Value)} (hl : (parts.map fun (i, x) => (i, a.eval x)).toList = l) (hf : P.built t l = some C)
    (h : wpList P ops Q rest (a.put o.dst (.agg C)) w) : wpList P ops Q (o :: rest) a w := by
  subst hl
  exact wpList_build hg t parts ho (by rw [hf]; rfl) (by rw [hf]; exact h)
end Go.Kx
namespace Go.Proofs.Ytegmimnhkohaoaa
open Go.RowKit Go.Kx
set_option linter.unusedVariables false
set_option linter.unusedSimpArgs false
attribute [local go_sem ↓] U_add U_mul U_xor U_or U_and U_not U_guard1 U_guard2 U_eql U_neq U_store exec_stU
attribute [local go_sem] st1_U st1_i

def Drawn (w : World) (v : Value) (e : Ending) (w' : World) : Prop := e = .returned v ∧ ∃ m, w' = w.drewN m

theorem rotr_comm (x : UInt32) (n : Nat) : shr32 x n ||| shl32 x (32 - n) = rotr x n := by unfold rotr; exact UInt32.or_comm _ _

theorem turn_c (x : UInt32) (k : Int) (w : World) (h : 1 ≤ k ∧ k ≤ 31) : Calls Try.prog 110 #[U x, .int .i64 k] w fun e w' => e = .returned (U (rotr x k.toNat)) ∧ ∃ m, w' = w.drewN m := by
  obtain ⟨n, rfl⟩ : ∃ n : Nat, k = (n : Int) := ⟨k.toNat, by omega⟩
  have h1 : (1 : Int) ≤ (n : Int) := h.1
  have h2 : (n : Int) ≤ 31 := h.2
  have h3 : (0 : Int) ≤ (n : Int) := by omega
  have h4 : (0 : Int) ≤ 32 - (n : Int) := by omega
  have e1 : IntKind.i64.wrap (32 - (n : Int)) = 32 - (n : Int) := IntWalk.i64_in _ ⟨by omega, by omega⟩
  have e2 : (32 - (n : Int)).toNat = 32 - n := by omega
  have s1 := fun (w : World) => U_shr (P := Try.prog) (w := w) (t := 142) x .i64 (n : Int) h3
  have s2 := fun (w : World) => U_shl (P := Try.prog) (w := w) (t := 142) x .i64 (32 - (n : Int)) h4
  rw [e2] at s2
  rw [Int.toNat_natCast] at s1
  go_enter Try.func110, Try.ntmps110
  go_upto_region 1 with (fail)
  go_quiet (fail)
  go_wp2
  go_ret
  refine ⟨?_, _, rfl⟩
  rw [Int.toNat_natCast, ← rotr_comm]
  rfl

/-! ### bits -/
def bitR (x y z : UInt32) (most : Bool) : UInt32 := if most then (x + y + z) / 2 else if x = 1 then y else z
def bitsK (a b c : UInt32) (most : Bool) : Nat → UInt32
  | 0 => 0
  | i + 1 => bitsK a b c most i ||| shl32 (bitR (shr32 a i &&& 1) (shr32 b i &&& 1) (shr32 c i &&& 1) most) i

theorem one_bit (x : UInt32) (i : Nat) : shr32 x i &&& 1 = if x.toBitVec.getLsbD i then 1 else 0 := by
  apply UInt32.toBitVec_inj.1
  have h : (shr32 x i).toBitVec = x.toBitVec >>> i := by
    unfold shr32
    apply BitVec.eq_of_toNat_eq
    rw [BitVec.toNat_ushiftRight]
    show (UInt32.ofNat (x.toNat / 2 ^ i)).toNat = _
    rw [UInt32.toNat_ofNat', Nat.mod_eq_of_lt (Nat.lt_of_le_of_lt (Nat.div_le_self _ _) x.toNat_lt), Nat.shiftRight_eq_div_pow]
    rfl
  rw [UInt32.toBitVec_and, h]
  apply BitVec.eq_of_getLsbD_eq
  intro j hj
  rw [BitVec.getLsbD_and, BitVec.getLsbD_ushiftRight]
  by_cases hb : x.toBitVec.getLsbD i
  · rw [if_pos hb]
    cases j with
    | zero => simp [hb]
    | succ j => simp
  · rw [if_neg hb]
    cases j with
    | zero => simp [hb]
    | succ j => simp
theorem bitR_eq (p q r : Bool) (most : Bool) : bitR (if p then 1 else 0) (if q then 1 else 0) (if r then 1 else 0) most = if (if most then (p && q || p && r || q && r) else (p && q || !p && r)) then 1 else 0 := by
  cases p <;> cases q <;> cases r <;> cases most <;> decide
theorem shl_bit (p : Bool) (i j : Nat) (hi : i < 32) (hj : j < 32) : (shl32 (if p then 1 else 0) i).toBitVec.getLsbD j = (p && decide (j = i)) := by
  have h : (shl32 (if p then 1 else 0) i).toBitVec = (if p then 1#32 else 0#32) <<< i := by
    unfold shl32
    apply BitVec.eq_of_toNat_eq
    rw [BitVec.toNat_shiftLeft, Nat.shiftLeft_eq]
    show (UInt32.ofNat _).toNat = _
    rw [UInt32.toNat_ofNat']
    cases p <;> rfl
  rw [h, BitVec.getLsbD_shiftLeft]
  cases p
  · simp
  · simp only [if_true, BitVec.getLsbD_one, Bool.true_and]
    rw [Bool.eq_iff_iff]
    simp
    omega
theorem bitsK_bit (a b c : UInt32) (most : Bool) (i : Nat) (hi : i ≤ 32) (j : Nat) (hj : j < 32) : (bitsK a b c most i).toBitVec.getLsbD j = (decide (j < i) &&
    (if most then (a.toBitVec.getLsbD j && b.toBitVec.getLsbD j || a.toBitVec.getLsbD j && c.toBitVec.getLsbD j || b.toBitVec.getLsbD j && c.toBitVec.getLsbD j) else (a.toBitVec.getLsbD j && b.toBitVec.getLsbD j || !a.toBitVec.getLsbD j && c.toBitVec.getLsbD j))) := by
  induction i with
  | zero => simp [bitsK]
  | succ i ih =>
    rw [bitsK, UInt32.toBitVec_or, BitVec.getLsbD_or, ih (by omega), one_bit, one_bit, one_bit, bitR_eq, shl_bit _ i j (by omega) hj]
    by_cases hji : j = i
    · subst hji; simp
    · simp only [hji, decide_false, Bool.and_false, Bool.or_false]
      rw [show decide (j < i + 1) = decide (j < i) from decide_eq_decide.2 (by omega)]
theorem bits_ch (a b c : UInt32) : bitsK a b c false 32 = (a &&& b ||| ~~~a &&& c) := by
  apply UInt32.toBitVec_inj.1
  apply BitVec.eq_of_getLsbD_eq
  intro j hj
  rw [bitsK_bit _ _ _ _ _ (by omega) j hj]
  simp [hj]
theorem bits_maj (a b c : UInt32) : bitsK a b c true 32 = (a &&& b ||| a &&& c ||| b &&& c) := by
  apply UInt32.toBitVec_inj.1
  apply BitVec.eq_of_getLsbD_eq
  intro j hj
  rw [bitsK_bit _ _ _ _ _ (by omega) j hj]
  simp [hj]

def BtRel (w : World) (a b c : UInt32) (most : Bool) (v9 v10 : Value) (wr : World) : Prop := ∃ (i m : Nat), v10 = .int .i64 (i : Int) ∧ i ≤ 32 ∧ v9 = U (bitsK a b c most i) ∧ wr = w.drewN m
theorem bits_c (a b c : UInt32) (most : Bool) (w : World) : Calls Try.prog 111 #[U a, U b, U c, .bool most] w fun e w' => e = .returned (U (bitsK a b c most 32)) ∧ ∃ m, w' = w.drewN m := by
  have k1 : Value.int .u32 1 = U 1 := rfl
  have k2 : Value.int .u32 2 = U 2 := rfl
  have hq := fun (x : UInt32) (w : World) => U_quo (P := Try.prog) (w := w) (t := 142) x 2 (by decide)
  go_enter Try.func111, Try.ntmps111
  go_wp2
  go_loopw [9, 10] (fun v9 v10 wr => BtRel w a b c most v9 v10 wr) (fun _ v10 _ => (32 - intOf v10).toNat)
  case atStart => exact ⟨0, 0, rfl, by omega, rfl, rfl⟩
  case round =>
    obtain ⟨i, m, rfl, hi, rfl, rfl⟩ := hrel
    by_cases hlt : i < 32
    · have hi0 : (0 : Int) ≤ (i : Int) := by omega
      have hlI : (i : Int) < 32 := by omega
      have s1 := fun (w : World) => U_shr (P := Try.prog) (w := w) (t := 142) a .i64 (i : Int) hi0
      have s2 := fun (w : World) => U_shr (P := Try.prog) (w := w) (t := 142) b .i64 (i : Int) hi0
      have s3 := fun (w : World) => U_shr (P := Try.prog) (w := w) (t := 142) c .i64 (i : Int) hi0
      have s4 := fun (r : UInt32) (w : World) => U_shl (P := Try.prog) (w := w) (t := 142) r .i64 (i : Int) hi0
      simp only [Int.toNat_natCast] at s1 s2 s3 s4
      obtain ⟨X, hX⟩ : ∃ x, x = shr32 a i &&& 1 := ⟨_, rfl⟩
      obtain ⟨Y, hY⟩ : ∃ x, x = shr32 b i &&& 1 := ⟨_, rfl⟩
      obtain ⟨Z, hZ⟩ : ∃ x, x = shr32 c i &&& 1 := ⟨_, rfl⟩
      obtain ⟨O, hO⟩ : ∃ x, x = bitsK a b c most i := ⟨_, rfl⟩
      have hst : bitsK a b c most (i + 1) = O ||| shl32 (bitR X Y Z most) i := by rw [hX, hY, hZ, hO]; rfl
      rw [← hO]
      have HST := Lib.hid hst
      have e1 := hX.symm
      have e2 := hY.symm
      have e3 := hZ.symm
      clear hst hX hY hZ hO
      go_upto_region 5 with (fail)
      go_quiet (fail)
      clear e1 e2 e3 s1 s2 s3
      cases most
      · by_cases hx : X = 1
        · have hr : bitR X Y Z false = Y := by unfold bitR; simp [hx]
          rw [hr] at HST
          clear hr
          go_wp2
          refine ⟨⟨i + 1, _, by simp, by omega, by rw [HST.out], rfl⟩, by simp [intOf]; omega⟩
        · have hr : bitR X Y Z false = Z := by unfold bitR; simp [hx]
          rw [hr] at HST
          clear hr
          go_wp2
          refine ⟨⟨i + 1, _, by simp, by omega, by rw [HST.out], rfl⟩, by simp [intOf]; omega⟩
      · have hr : bitR X Y Z true = (X + Y + Z) / 2 := by unfold bitR; simp
        rw [hr] at HST
        clear hr
        go_wp2
        refine ⟨⟨i + 1, _, by simp, by omega, by rw [HST.out], rfl⟩, by simp [intOf]; omega⟩
    · obtain rfl : i = 32 := by omega
      go_wp2
      go_ret
      exact ⟨rfl, _, rfl⟩

def refK : List UInt32 := [0x428a2f98, 0x71374491, 0xb5c0fbcf, 0xe9b5dba5, 0x3956c25b, 0x59f111f1, 0x923f82a4, 0xab1c5ed5,
  0xd807aa98, 0x12835b01, 0x243185be, 0x550c7dc3, 0x72be5d74, 0x80deb1fe, 0x9bdc06a7, 0xc19bf174,
  0xe49b69c1, 0xefbe4786, 0x0fc19dc6, 0x240ca1cc, 0x2de92c6f, 0x4a7484aa, 0x5cb0a9dc, 0x76f988da,
  0x983e5152, 0xa831c66d, 0xb00327c8, 0xbf597fc7, 0xc6e00bf3, 0xd5a79147, 0x06ca6351, 0x14292967,
  0x27b70a85, 0x2e1b2138, 0x4d2c6dfc, 0x53380d13, 0x650a7354, 0x766a0abb, 0x81c2c92e, 0x92722c85,
  0xa2bfe8a1, 0xa81a664b, 0xc24b8b70, 0xc76c51a3, 0xd192e819, 0xd6990624, 0xf40e3585, 0x106aa070,
  0x19a4c116, 0x1e376c08, 0x2748774c, 0x34b0bcb5, 0x391c0cb3, 0x4ed8aa4a, 0x5b9cca4f, 0x682e6ff3,
  0x748f82ee, 0x78a5636f, 0x84c87814, 0x8cc70208, 0x90befffa, 0xa4506ceb, 0xbef9a3f7, 0xc67178f2]
theorem refK_eq : refK = rootsL 64 true := by decide +kernel
def refH : List UInt32 := [0x6a09e667, 0xbb67ae85, 0x3c6ef372, 0xa54ff53a, 0x510e527f, 0x9b05688c, 0x1f83d9ab, 0x5be0cd19]
theorem refH_eq : refH = rootsL 8 false := by decide +kernel
set_option maxHeartbeats 4000000 in
set_option maxRecDepth 100000 in
theorem consts_c (w : World) : Calls Try.prog 109 #[] w fun e w' => e = .returned (.agg (refK.map U).toArray) ∧ Below w.heap.size w w' := by
  have hA : ∀ W, W = w.alloc (.cells #[.int .u32 0, .int .u32 0, .int .u32 0, .int .u32 0, .int .u32 0, .int .u32 0, .int .u32 0, .int .u32 0, .int .u32 0, .int .u32 0, .int .u32 0, .int .u32 0, .int .u32 0, .int .u32 0, .int .u32 0, .int .u32 0, .int .u32 0, .int .u32 0, .int .u32 0, .int .u32 0, .int .u32 0, .int .u32 0, .int .u32 0, .int .u32 0, .int .u32 0, .int .u32 0, .int .u32 0, .int .u32 0, .int .u32 0, .int .u32 0, .int .u32 0, .int .u32 0, .int .u32 0, .int .u32 0, .int .u32 0, .int .u32 0, .int .u32 0, .int .u32 0, .int .u32 0, .int .u32 0, .int .u32 0, .int .u32 0, .int .u32 0, .int .u32 0, .int .u32 0, .int .u32 0, .int .u32 0, .int .u32 0, .int .u32 0, .int .u32 0, .int .u32 0, .int .u32 0, .int .u32 0, .int .u32 0, .int .u32 0, .int .u32 0, .int .u32 0, .int .u32 0, .int .u32 0, .int .u32 0, .int .u32 0, .int .u32 0, .int .u32 0, .int .u32 0] 147) → ArrU W w.heap.size 147 (List.replicate 64 0) ∧ Below w.heap.size w W := by
    rintro W rfl
    exact ⟨(ArrU.new w 147 (List.replicate 64 0) : ArrU _ _ _ _), (Below.refl _ _).alloc (Nat.le_refl _) _⟩
  have HA := Lib.hid hA
  clear hA
  go_enter Try.func109, Try.ntmps109
  go_wp2_with (first
    | (refine wpList_build_eq rfl 147 _ rfl (C := (refK.map U).toArray) rfl (by kernel_rfl) ?_)
    | (refine st_arrU rfl 147 (.tmp 0) (.tmp 1) rfl w.heap.size refK rfl rfl _ _ (HA.out _ rfl).1 Try.infoA64 rfl ?_; intro w5 hA5 hO5))
  refine bodyPost_ret (v := .agg (refK.map U).toArray) (results_cell_row (P := Try.prog) Try.results109 _ _ w.heap.size _ _ _ _ rfl hA5 Try.underlying147 rfl (by rw [Try.infoA64]; rfl)) rfl (And.intro rfl ?_)
  exact below_only (HA.out _ rfl).2 (HA.out _ rfl).2.size hO5 (by intro k hk e; omega)
end Go.Proofs.Ytegmimnhkohaoaa
