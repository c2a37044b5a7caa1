/-
  The contracts of sha.right, math/bits.RotateLeft32 and Mul64, and sha.root. Condition: a count from 1 to 31.
-/
import Derived.Test.YtolgaapiedbkfaaGreatZg1
import Derived.Test.YtolgaapiedbkfaaGreatZg2
import Derived.Lib.Mul64
import Derived.Deep.CutBlock
import Derived.Deep.CutRange
import Derived.Deep.RegionLaw
namespace Go.Proofs.YtolgaapiedbkfaaGreat
open Go.RowKit Go.Kx
set_option linter.unusedVariables false
set_option linter.unusedSimpArgs false
attribute [local go_sem ↓] U_add U_mul U_xor U_or U_and U_not
attribute [local go_sem ↓] U_shl U_shr
attribute [local go_sem ↓] D_add D_mul D_xor D_or D_and D_not D_sub D_lss D_eql D_neq
attribute [local go_sem ↓] D_shl D_shr
attribute [local go_sem ↓] U_guard1 U_guard2 D_guard1 D_guard2

theorem and31 (n : Nat) (h : 1 ≤ n ∧ n ≤ 31) : bits .and .u64 (IntKind.u64.wrap (-(n : Int))) 31 = ((32 - n : Nat) : Int) := by
  obtain ⟨h1, h2⟩ := h
  have : n = 1 ∨ n = 2 ∨ n = 3 ∨ n = 4 ∨ n = 5 ∨ n = 6 ∨ n = 7 ∨ n = 8 ∨ n = 9 ∨ n = 10 ∨ n = 11 ∨ n = 12 ∨ n = 13 ∨ n = 14 ∨ n = 15 ∨ n = 16 ∨ n = 17 ∨ n = 18 ∨ n = 19 ∨ n = 20 ∨ n = 21 ∨ n = 22 ∨ n = 23 ∨ n = 24 ∨ n = 25 ∨ n = 26 ∨ n = 27 ∨ n = 28 ∨ n = 29 ∨ n = 30 ∨ n = 31 := by omega
  rcases this with h | h | h | h | h | h | h | h | h | h | h | h | h | h | h | h | h | h | h | h | h | h | h | h | h | h | h | h | h | h | h <;> subst h <;> rfl
theorem sub32 (n : Nat) (h : 1 ≤ n ∧ n ≤ 31) : IntKind.u64.wrap (32 - ((32 - n : Nat) : Int)) = (n : Int) := by
  obtain ⟨h1, h2⟩ := h
  have e : (32 - ((32 - n : Nat) : Int)) = (n : Int) := by omega
  rw [e]
  unfold IntKind.wrap
  simp [IntKind.bits, IntKind.signed]
  omega

theorem rotl_c (x : UInt32) (n : Nat) (w : World) (h : 1 ≤ n ∧ n ≤ 31) : Calls Tryz.prog 171 #[U x, .int .i64 (-(n : Int))] w fun e w' => e = .returned (U (rotr x n)) ∧ w = w' := by
  have h1 := and31 n h
  have h2 := sub32 n h
  go_enter Tryz.func171, Tryz.ntmps171
  go_wp2
  go_ret
  exact ⟨rfl, rfl⟩

theorem rotr_c (x : UInt32) (n : Nat) (w : World) (h : 1 ≤ n ∧ n ≤ 31) : Calls Tryz.prog 151 #[U x, .int .i64 (n : Int)] w fun e w' => e = .returned (U (rotr x n)) ∧ w = w' := by
  go_enter Tryz.func151, Tryz.ntmps151
  go_wp2_with (go_at_call 171; refine (rotl_c x n _ h).mono ?_; rintro e w' ⟨rfl, rfl⟩)
  go_ret
  exact ⟨rfl, rfl⟩

def mulhi (x y : UInt64) : UInt64 := UInt64.ofNat (x.toNat * y.toNat / 18446744073709551616)
theorem and_mask (x : UInt64) : (x &&& 4294967295).toNat = x.toNat % 4294967296 := by
  rw [UInt64.toNat_and]
  exact Nat.and_two_pow_sub_one_eq_mod x.toNat 32
theorem shr_half (x : UInt64) : (shr64 x 32).toNat = x.toNat / 4294967296 := by
  unfold shr64
  have h := x.toNat_lt
  rw [UInt64.toNat_ofNat', Nat.mod_eq_of_lt]
  omega
theorem mul64_eq (x y : UInt64) : shr64 x 32 * shr64 y 32 + shr64 (shr64 x 32 * (y &&& 4294967295) + shr64 ((x &&& 4294967295) * (y &&& 4294967295)) 32) 32 +
    shr64 ((shr64 x 32 * (y &&& 4294967295) + shr64 ((x &&& 4294967295) * (y &&& 4294967295)) 32 &&& 4294967295) + (x &&& 4294967295) * shr64 y 32) 32 = mulhi x y := by
  have hx : x.toNat < 18446744073709551616 := x.toNat_lt
  have hy : y.toNat < 18446744073709551616 := y.toNat_lt
  obtain ⟨bd, bt, bw, hhi⟩ := Lib.mul64_hi x.toNat y.toNat hx hy
  have ba := Lib.half_mul_le (a := x.toNat / 4294967296) (b := y.toNat / 4294967296) (by omega) (by omega)
  have bb := Lib.half_mul_le (a := x.toNat / 4294967296) (b := y.toNat % 4294967296) (by omega) (by omega)
  have bc := Lib.half_mul_le (a := x.toNat % 4294967296) (b := y.toNat / 4294967296) (by omega) (by omega)
  have e : ∀ n : Nat, 2 ^ 64 = 18446744073709551616 := fun _ => rfl
  apply UInt64.toNat_inj.1
  unfold mulhi
  simp only [UInt64.toNat_add, UInt64.toNat_mul, and_mask, shr_half, UInt64.toNat_ofNat', e 0]
  rw [← hhi]
  generalize x.toNat / 4294967296 * (y.toNat / 4294967296) = a at *
  generalize x.toNat / 4294967296 * (y.toNat % 4294967296) = b at *
  generalize x.toNat % 4294967296 * (y.toNat / 4294967296) = c at *
  generalize x.toNat % 4294967296 * (y.toNat % 4294967296) = d at *
  rw [Nat.mod_eq_of_lt bd, Nat.mod_eq_of_lt (by omega : b < 18446744073709551616), Nat.mod_eq_of_lt bt, Nat.mod_eq_of_lt (by omega : c < 18446744073709551616), Nat.mod_eq_of_lt bw, Nat.mod_eq_of_lt (by omega : a < 18446744073709551616), Nat.mod_eq_of_lt (by omega : a + (b + d / 4294967296) / 4294967296 < 18446744073709551616)]
theorem mul64_c (x y : UInt64) (w : World) : Calls Tryz.prog 170 #[D x, D y] w fun e w' => e = .returned (.tuple #[D (mulhi x y), D (x * y)]) ∧ w = w' := by
  have k1 : Value.int .u64 4294967295 = D 4294967295 := rfl
  have h := mul64_eq x y
  go_enter Tryz.func170, Tryz.ntmps170
  go_wp2
  go_ret2
  exact ⟨rfl, rfl⟩

/-! ### root -/
def rnext (r : UInt64) (b : Nat) : UInt64 := r ||| shl64 1 b
def rhigh (n : UInt64) (cube : Bool) : UInt64 := if cube then mulhi n n * n + mulhi (n * n) n else mulhi n n
def rlow (n : UInt64) (cube : Bool) : UInt64 := if cube then n * n * n else n * n
def rmost (p : UInt64) (cube : Bool) : UInt64 := if cube then shl64 p 32 else p
def rstep (p : UInt64) (cube : Bool) (r : UInt64) (b : Nat) : UInt64 :=
  if rhigh (rnext r b) cube < rmost p cube ∨ (rhigh (rnext r b) cube = rmost p cube ∧ rlow (rnext r b) cube = 0) then rnext r b else r
/-- The root behind so many steps. -/
def rootK (p : UInt64) (cube : Bool) : Nat → UInt64
  | 0 => 0
  | k + 1 => rstep p cube (rootK p cube k) (35 - k)
def rootU (p : UInt64) (cube : Bool) : UInt32 := UInt32.ofNat (rootK p cube 36).toNat

/-- What the build of a slice of one number comes to. -/
noncomputable def hidBs (t : TypeId) (v : Value) (w : World) : Result Next := (do let x ← Instr.buildSlice t 1 #[(0, v)]; pure (Next.value x) : Sem Next).run Tryz.prog w
noncomputable def bs1 (t e : TypeId) (k : IntKind) (v : Value) (w : World) : Result Next :=
  match v with
  | .int k' n => if k = k' then .ok (.value (.slice (some ⟨w.heap.size, 0, none⟩) 1 1)) (w.alloc (.cells #[v] e)) else hidBs t v w
  | _ => hidBs t v w
theorem bs1_D (t : TypeId) (x : UInt64) (w : World) : bs1 t 35 .u64 (D x) w = .ok (.value (.slice (some ⟨w.heap.size, 0, none⟩) 1 1)) (w.alloc (.cells #[D x] 35)) := rfl
theorem bs1_U (t : TypeId) (x : UInt32) (w : World) : bs1 t 173 .u32 (U x) w = .ok (.value (.slice (some ⟨w.heap.size, 0, none⟩) 1 1)) (w.alloc (.cells #[U x] 173)) := rfl
theorem bsrun_D (k : Int) (w : World) : (Instr.buildSlice 237 1 #[(0, .int .u64 k)]).run Tryz.prog w = .ok (.slice (some ⟨w.heap.size, 0, none⟩) 1 1) (w.alloc (.cells #[.int .u64 k] 35)) := by kernel_rfl
theorem bsrun_U (k : Int) (w : World) : (Instr.buildSlice 192 1 #[(0, .int .u32 k)]).run Tryz.prog w = .ok (.slice (some ⟨w.heap.size, 0, none⟩) 1 1) (w.alloc (.cells #[.int .u32 k] 173)) := by kernel_rfl
theorem exec_bsD (dst : Option Tmp) (x : Operand) (ty : TypeId) (pos : String) (after : Array Edge) (gd : Option (Nat × Bool)) (ρ : Operand → Value) (w : World) :
    (execOp ρ ⟨dst, .buildSlice 237 1 #[(0, x)], ty, pos, after, gd⟩).run Tryz.prog w = bs1 237 35 .u64 (ρ x) w := by
  have h0 : (execOp ρ ⟨dst, .buildSlice 237 1 #[(0, x)], ty, pos, after, gd⟩).run Tryz.prog w = hidBs 237 (ρ x) w := by kernel_rfl
  rw [h0]
  generalize ρ x = v
  unfold bs1
  split
  · split
    · rename_i h; subst h; unfold hidBs; rw [Sem.run_bind, bsrun_D]; rfl
    · rfl
  · rfl
theorem exec_bsU (dst : Option Tmp) (x : Operand) (ty : TypeId) (pos : String) (after : Array Edge) (gd : Option (Nat × Bool)) (ρ : Operand → Value) (w : World) :
    (execOp ρ ⟨dst, .buildSlice 192 1 #[(0, x)], ty, pos, after, gd⟩).run Tryz.prog w = bs1 192 173 .u32 (ρ x) w := by
  have h0 : (execOp ρ ⟨dst, .buildSlice 192 1 #[(0, x)], ty, pos, after, gd⟩).run Tryz.prog w = hidBs 192 (ρ x) w := by kernel_rfl
  rw [h0]
  generalize ρ x = v
  unfold bs1
  split
  · split
    · rename_i h; subst h; unfold hidBs; rw [Sem.run_bind, bsrun_U]; rfl
    · rfl
  · rfl
/-- What a store of one number comes to. -/
noncomputable def hidSt (t : TypeId) (a v : Value) (w : World) : Result Next := (do Instr.storeAt t a v; pure Next.skip : Sem Next).run Tryz.prog w
noncomputable def st1 (t : TypeId) (a v : Value) (w : World) : Result Next :=
  match a with
  | .pointer (some ad) => if v.oneCell' = true then (stored Tryz.prog w ad v .plain).andThen (fun _ w' => .ok .skip w') else hidSt t a v w
  | _ => hidSt t a v w
theorem st1_D (t : TypeId) (ad : Addr) (x : UInt64) (w : World) : st1 t (.pointer (some ad)) (D x) w = (stored Tryz.prog w ad (D x) .plain).andThen (fun _ w' => .ok .skip w') := rfl
theorem st1_i (t : TypeId) (ad : Addr) (k : IntKind) (n : Int) (w : World) : st1 t (.pointer (some ad)) (.int k n) w = (stored Tryz.prog w ad (.int k n) .plain).andThen (fun _ w' => .ok .skip w') := rfl
theorem st1_U (t : TypeId) (ad : Addr) (x : UInt32) (w : World) : st1 t (.pointer (some ad)) (U x) w = (stored Tryz.prog w ad (U x) .plain).andThen (fun _ w' => .ok .skip w') := rfl
theorem cells_one {v : Value} (h : v.oneCell' = true) : v.cells = #[v] := by cases v <;> first | rfl | (simp [Value.oneCell'] at h)
theorem hidSt_one (t : TypeId) (i : TypeInfo) (hi : Tryz.prog.info? t = some i) (hs : i.size = 1) (ad : Addr) (v : Value) (h : v.oneCell' = true) (w : World) :
    hidSt t (.pointer (some ad)) v w = (stored Tryz.prog w ad v .plain).andThen (fun _ w' => .ok .skip w') := by
  have h1 : (Instr.storeAt t (.pointer (some ad)) v).run Tryz.prog w = stored Tryz.prog w ad v .plain := by
    have ha : ad.add 0 = ad := by simp [Addr.add]
    have h2 := run_store Tryz.prog w ad v .plain h
    simp only [Instr.storeAt, Instr.sureAddr, Sem.run_bind, Sem.run_pure, Result.andThen_ok]
    simp [storeVar, sizeOf, typeInfo, hi, hs, cells_one h, storeCells, ha]
    rw [h2]
    rfl
  unfold hidSt
  rw [Sem.run_bind, h1]
  rfl
theorem exec_st (t : TypeId) (hi : (Tryz.prog.info? t).map (fun i => i.size) = some 1) (dst : Option Tmp) (x y : Operand) (ty : TypeId) (pos : String) (after : Array Edge) (gd : Option (Nat × Bool)) (ρ : Operand → Value) (w : World) :
    (execOp ρ ⟨dst, .store t x y, ty, pos, after, gd⟩).run Tryz.prog w = st1 t (ρ x) (ρ y) w := by
  have h0 : (execOp ρ ⟨dst, .store t x y, ty, pos, after, gd⟩).run Tryz.prog w = hidSt t (ρ x) (ρ y) w := rfl
  rw [h0]
  generalize ρ x = a
  generalize ρ y = v
  unfold st1
  obtain ⟨i, hi1, hi2⟩ : ∃ i, Tryz.prog.info? t = some i ∧ i.size = 1 := by
    simpa using hi
  split
  · split
    · rename_i h; exact hidSt_one t i hi1 hi2 _ _ h w
    · rfl
  · rfl
theorem exec_stD (dst : Option Tmp) (x y : Operand) (ty : TypeId) (pos : String) (after : Array Edge) (gd : Option (Nat × Bool)) (ρ : Operand → Value) (w : World) :
    (execOp ρ ⟨dst, .store 35 x y, ty, pos, after, gd⟩).run Tryz.prog w = st1 35 (ρ x) (ρ y) w := exec_st _ (by kernel_rfl) _ _ _ _ _ _ _ _ _
theorem exec_stU (dst : Option Tmp) (x y : Operand) (ty : TypeId) (pos : String) (after : Array Edge) (gd : Option (Nat × Bool)) (ρ : Operand → Value) (w : World) :
    (execOp ρ ⟨dst, .store 173 x y, ty, pos, after, gd⟩).run Tryz.prog w = st1 173 (ρ x) (ρ y) w := exec_st _ (by kernel_rfl) _ _ _ _ _ _ _ _ _
theorem cvD (x : UInt64) (w : World) : (convert 35 173 (D x)).run Tryz.prog w = .ok (U (UInt32.ofNat x.toNat)) w := by
  have h : IntKind.u32.wrap (x.toNat : Int) = ((UInt32.ofNat x.toNat).toNat : Int) := by rw [wrap_u32, UInt32.toNat_ofNat']
  have hk : Tryz.prog.intKind 173 = .u32 := by kernel_rfl
  have h2 := run_convert_int (P := Tryz.prog) (w := w) 35 173 .u64 (x.toNat : Int) (by rw [Tryz.underlying35]; rfl) (by rw [hk]; exact Tryz.underlying173)
  rw [hk, h] at h2
  exact h2

theorem root_c (p : UInt64) (cube : Bool) (w : World) : Calls Tryz.prog 149 #[D p, .bool cube] w fun e w' => e = .returned (U (rootU p cube)) ∧ w = w' := by
  have k1 : Value.int .u64 1 = D 1 := rfl
  have k0 : Value.int .u64 0 = D 0 := rfl
  have cv := cvD
  go_enter Tryz.func149, Tryz.ntmps149
  go_wp2
  go_loop [5, 6] (fun v5 v6 => ∃ k : Nat, k ≤ 36 ∧ v6 = .int .i64 (35 - (k : Int)) ∧ v5 = D (rootK p cube k)) (fun _ v6 => (intOf v6 + 1).toNat)
  case atStart => exact ⟨0, by omega, rfl, rfl⟩
  case round =>
    obtain ⟨k, hk, rfl, rfl⟩ := hrel
    by_cases hlt : k < 36
    · obtain ⟨b, hb⟩ : ∃ b : Nat, b = 35 - k := ⟨_, rfl⟩
      have e1 : (35 - (k : Int)) = (b : Int) := by omega
      have hs : rootK p cube (k + 1) = rstep p cube (rootK p cube k) b := by rw [hb]; rfl
      have HS := Lib.hid (And.intro hs hb)
      clear hs hb
      rw [e1]
      clear e1
      have hb0 : (0 : Int) ≤ (b : Int) := by omega
      have hb1 : (b : Int) ≤ 35 := by have := HS.out.2; omega
      obtain ⟨R, hR⟩ : ∃ R, R = rootK p cube k := ⟨_, rfl⟩
      rw [← hR] at HS ⊢
      obtain ⟨N, hN'⟩ : ∃ N, N = R ||| shl64 1 b := ⟨_, rfl⟩
      have hN : rnext R b = N := hN'.symm
      have hN2 := hN'.symm
      clear hN' hR
      cases cube
      ·
        by_cases c1 : rhigh N false < rmost p false
        · have hr : rstep p false R b = N := by unfold rstep; rw [hN, if_pos (.inl c1)]
          have HR := Lib.hid hr
          clear hr
          simp only [rhigh, rlow, rmost, if_true, if_false, Bool.false_eq_true] at c1
          go_wp2_with (go_at_call 170; refine (mul64_c _ _ _).mono ?_; rintro e w' ⟨rfl, rfl⟩)
          exact ⟨⟨k + 1, by omega, by congr 1; have := HS.out.2; omega, by rw [HS.out.1, HR.out]⟩, by simp [intOf]⟩
        · by_cases c2 : rhigh N false = rmost p false
          · by_cases c3 : rlow N false = 0
            · have hr : rstep p false R b = N := by unfold rstep; rw [hN, if_pos (.inr ⟨c2, c3⟩)]
              have HR := Lib.hid hr
              clear hr
              simp only [rhigh, rlow, rmost, if_true, if_false, Bool.false_eq_true] at c1 c2 c3
              go_wp2_with (go_at_call 170; refine (mul64_c _ _ _).mono ?_; rintro e w' ⟨rfl, rfl⟩)
              exact ⟨⟨k + 1, by omega, by congr 1; have := HS.out.2; omega, by rw [HS.out.1, HR.out]⟩, by simp [intOf]⟩
            · have hr : rstep p false R b = R := by unfold rstep; rw [hN, if_neg (fun h => h.elim c1 (fun h => c3 h.2))]
              have HR := Lib.hid hr
              clear hr
              simp only [rhigh, rlow, rmost, if_true, if_false, Bool.false_eq_true] at c1 c2 c3
              go_wp2_with (go_at_call 170; refine (mul64_c _ _ _).mono ?_; rintro e w' ⟨rfl, rfl⟩)
              exact ⟨⟨k + 1, by omega, by congr 1; have := HS.out.2; omega, by rw [HS.out.1, HR.out]⟩, by simp [intOf]⟩
          · have hr : rstep p false R b = R := by unfold rstep; rw [hN, if_neg (fun h => h.elim c1 (fun h => c2 h.1))]
            have HR := Lib.hid hr
            clear hr
            simp only [rhigh, rlow, rmost, if_true, if_false, Bool.false_eq_true] at c1 c2
            go_wp2_with (go_at_call 170; refine (mul64_c _ _ _).mono ?_; rintro e w' ⟨rfl, rfl⟩)
            exact ⟨⟨k + 1, by omega, by congr 1; have := HS.out.2; omega, by rw [HS.out.1, HR.out]⟩, by simp [intOf]⟩
      ·
        by_cases c1 : rhigh N true < rmost p true
        · have hr : rstep p true R b = N := by unfold rstep; rw [hN, if_pos (.inl c1)]
          have HR := Lib.hid hr
          clear hr
          simp only [rhigh, rlow, rmost, if_true, if_false, Bool.false_eq_true] at c1
          go_wp2_with (go_at_call 170; refine (mul64_c _ _ _).mono ?_; rintro e w' ⟨rfl, rfl⟩)
          exact ⟨⟨k + 1, by omega, by congr 1; have := HS.out.2; omega, by rw [HS.out.1, HR.out]⟩, by simp [intOf]⟩
        · by_cases c2 : rhigh N true = rmost p true
          · by_cases c3 : rlow N true = 0
            · have hr : rstep p true R b = N := by unfold rstep; rw [hN, if_pos (.inr ⟨c2, c3⟩)]
              have HR := Lib.hid hr
              clear hr
              simp only [rhigh, rlow, rmost, if_true, if_false, Bool.false_eq_true] at c1 c2 c3
              go_wp2_with (go_at_call 170; refine (mul64_c _ _ _).mono ?_; rintro e w' ⟨rfl, rfl⟩)
              exact ⟨⟨k + 1, by omega, by congr 1; have := HS.out.2; omega, by rw [HS.out.1, HR.out]⟩, by simp [intOf]⟩
            · have hr : rstep p true R b = R := by unfold rstep; rw [hN, if_neg (fun h => h.elim c1 (fun h => c3 h.2))]
              have HR := Lib.hid hr
              clear hr
              simp only [rhigh, rlow, rmost, if_true, if_false, Bool.false_eq_true] at c1 c2 c3
              go_wp2_with (go_at_call 170; refine (mul64_c _ _ _).mono ?_; rintro e w' ⟨rfl, rfl⟩)
              exact ⟨⟨k + 1, by omega, by congr 1; have := HS.out.2; omega, by rw [HS.out.1, HR.out]⟩, by simp [intOf]⟩
          · have hr : rstep p true R b = R := by unfold rstep; rw [hN, if_neg (fun h => h.elim c1 (fun h => c2 h.1))]
            have HR := Lib.hid hr
            clear hr
            simp only [rhigh, rlow, rmost, if_true, if_false, Bool.false_eq_true] at c1 c2
            go_wp2_with (go_at_call 170; refine (mul64_c _ _ _).mono ?_; rintro e w' ⟨rfl, rfl⟩)
            exact ⟨⟨k + 1, by omega, by congr 1; have := HS.out.2; omega, by rw [HS.out.1, HR.out]⟩, by simp [intOf]⟩
    · have hk6 : k = 36 := by omega
      subst hk6
      go_wp2
      go_ret
      exact ⟨rfl, rfl⟩
end Go.Proofs.YtolgaapiedbkfaaGreat
/-
  In plain: what relay/poly reckons with. No condition but those that each theorem states.
-/
namespace Go.Kx
open Go.Proofs.YtolgaapiedbkfaaGreat
set_option linter.unusedVariables false
set_option linter.unusedSimpArgs false
/-- A number of some bytes, the lowest first, behind so many of them. -/
def litK (b : List UInt8) : Nat → UInt64
  | 0 => 0
  | i + 1 => litK b i ||| shl64 (b.getD i 0).toUInt64 (8 * i)
def litF (b : List UInt8) : UInt64 := litK b (min b.length 8)
/-- The carry of a sum. -/
def cy (x y c : UInt64) : UInt64 := UInt64.ofNat ((x.toNat + y.toNat + c.toNat) / 18446744073709551616)
theorem cy_le (x y c : UInt64) (h : c.toNat ≤ 1) : (cy x y c).toNat ≤ 1 := by
  unfold cy
  have hx := x.toNat_lt
  have hy := y.toNat_lt
  rw [UInt64.toNat_ofNat', Nat.mod_eq_of_lt (by omega)]
  omega
/-- Three words. -/
structure N3 where
  a : UInt64
  b : UInt64
  c : UInt64
def n3V (h : N3) : Array Value := #[D h.a, D h.b, D h.c]
def plusF (h x : N3) : N3 := ⟨h.a + x.a, h.b + x.b + cy h.a x.a 0, h.c + x.c + cy h.b x.b (cy h.a x.a 0)⟩
def wideH (hi lo a b : UInt64) : UInt64 := hi + mulhi a b + cy lo (a * b) 0
def wideL (lo a b : UInt64) : UInt64 := lo + a * b
def sumL' (x y c : UInt64) : UInt64 := x + y + c
/-- The product's four words. -/
def tm1h (h : N3) (r0 r1 : UInt64) : UInt64 := wideH (wideH 0 0 h.a r1) (wideL 0 h.a r1) h.b r0
def tm1l (h : N3) (r0 r1 : UInt64) : UInt64 := wideL (wideL 0 h.a r1) h.b r0
def tm2h (h : N3) (r0 r1 : UInt64) : UInt64 := wideH (wideH 0 0 h.b r1) (wideL 0 h.b r1) h.c r0
def tm2l (h : N3) (r0 r1 : UInt64) : UInt64 := wideL (wideL 0 h.b r1) h.c r0
def tmc1 (h : N3) (r0 r1 : UInt64) : UInt64 := cy (tm1l h r0 r1) (mulhi h.a r0) 0
def tmc2 (h : N3) (r0 r1 : UInt64) : UInt64 := cy (tm2l h r0 r1) (tm1h h r0 r1) (tmc1 h r0 r1)
def tmt2 (h : N3) (r0 r1 : UInt64) : UInt64 := tm2l h r0 r1 + tm1h h r0 r1 + tmc1 h r0 r1
def tmt3 (h : N3) (r0 r1 : UInt64) : UInt64 := h.c * r1 + tm2h h r0 r1 + tmc2 h r0 r1
def tmOver (h : N3) (r0 r1 : UInt64) : N3 := ⟨tmt2 h r0 r1 &&& ~~~3, tmt3 h r0 r1, 0⟩
def timesF (h : N3) (r0 r1 : UInt64) : N3 :=
  plusF (plusF ⟨h.a * r0, tm1l h r0 r1 + mulhi h.a r0, tmt2 h r0 r1 &&& 3⟩ (tmOver h r0 r1)) ⟨shr64 (tmOver h r0 r1).a 2 ||| shl64 (tmOver h r0 r1).b 62, shr64 (tmOver h r0 r1).b 2, 0⟩
end Go.Kx
/-
  Rows of bytes of the call's own, nil or not, that grow by append; blocks known whole. Of any program; no condition but those that each theorem states.
-/
namespace Go.Kx
open Go.RowKit
set_option linter.unusedVariables false
set_option linter.unusedSimpArgs false
theorem step_append_own {P : Program} {ops : Array Oper} {w : World} {o : Oper} {a : Act} {K : Act → World → Prop} {Q : Exit → Act → World → Prop} {E : Prop} (hgd : o.guard = none) (s x : Operand) (t : TypeId)
    (ho : o.op = .call { callee := .builtin .append, args := #[s, x], argTypes := #[t, t] }) (e : TypeId) (z : Value) (size bytes : Nat) (ht : P.underlying t = some (.slice e))
    (hinfo : (P.info? e).map (fun i => (i.zero, i.size, i.bytes)) = some (some z, size, bytes)) (hzs : z.cells.size = size) (hsz : 0 < size)
    (v : Value) (n : Nat) (xs : List Value) (hs : a.eval s = v) (hown : w.ownsRow 0 e size v n xs)
    (ad : Addr) (m c : Nat) (news : List Value) (hx : a.eval x = .slice (some ad) m c) (hl : news.length = m * size) (hnews : ∀ j u, news[j]? = some u → w.cell? (ad.add j) = some u) (h1 : ∀ u ∈ news, u.oneCell' = true)
    (h63 : n + m ≤ maxLen) (hbytes : (n + m) * bytes ≤ 140737488355328)
    (h : ∀ g' v' w', Row w' e size g' v' (n + m) (xs ++ news) → (v.ownBlock = some g' ∨ g' = w.heap.size) → Only (fun k => v.ownBlock = some k) w w' → K (a.put o.dst v') w') :
    if Region.wanted o (yielded ops a.tmps) = true then Oper.wp P o a w K Q else E := by
  have hw : Region.wanted o (yielded ops a.tmps) = true := by simp [Region.wanted, hgd]
  rw [if_pos hw]
  cases hb : v.ownBlock with
  | none =>
    obtain ⟨g', v', w', hr, hrow, hg', hgr, _⟩ := run_append_row (P := P) w t o.type e z size bytes ht hinfo hzs hsz w.heap.size v n xs ⟨hown, .inl hb⟩ ad m c news hl hnews h1 h63 hbytes
    exact wp_append_run w s x t ho v _ hs hx hr (h g' v' w' hrow (.inr (by omega)) ((Only.of_grown hgr).mono fun k _ hk => hk.symm))
  | some g =>
    obtain ⟨g', v', w', hr, hrow, hg', hgr, _⟩ := run_append_row (P := P) w t o.type e z size bytes ht hinfo hzs hsz g v n xs ⟨hown, .inr hb⟩ ad m c news hl hnews h1 h63 hbytes
    exact wp_append_run w s x t ho v _ hs hx hr (h g' v' w' hrow (by rcases hg' with rfl | h; exact .inl hb; exact .inr h) ((Only.of_grown hgr).mono fun k _ hk => hk.symm))
theorem owns_only {w w' : World} {r : Nat → Prop} {e : TypeId} {sz : Nat} {v : Value} {n : Nat} {xs : List Value} (h : w.ownsRow 0 e sz v n xs) (ho : Only r w w') (hd : ∀ k, v.ownBlock = some k → ¬ r k) : w'.ownsRow 0 e sz v n xs := by
  cases hb : v.ownBlock with
  | none =>
    obtain ⟨h1, h2⟩ := h
    rcases h2 with h2 | ⟨g', cap, cur, rfl, hb', hg, rest⟩
    · exact ⟨h1, .inl h2⟩
    · cases hb
  | some g => exact (Row.only (g := g) ⟨h, .inr hb⟩ ho (hd g hb)).1
end Go.Kx
namespace Go.Proofs.YtolgaapiedbkfaaGreat
open Go.RowKit Go.Kx
set_option linter.unusedVariables false
set_option linter.unusedSimpArgs false
set_option maxRecDepth 100000
set_option linter.unusedVariables false
set_option linter.unusedSimpArgs false

/-- The low eight bits. -/
def b8 (z : Int) : UInt8 := UInt8.ofNat (z % 256).toNat
theorem b8_nat (z : Int) : ((b8 z).toNat : Int) = z % 256 := by
  unfold b8
  rw [UInt8.toNat_ofNat']
  omega
theorem Own.lit (w : World) (l : List UInt8) (h : l.length ≤ 1000) : Own (w.alloc (.cells (l.map B8).toArray 5)) w.heap.size (.slice (some ⟨w.heap.size, 0, none⟩) l.length l.length) l :=
  ⟨⟨by simp, .inr ⟨w.heap.size, l.length, (l.map B8).toArray, rfl, Nat.zero_le _, heap_alloc_new w _, Nat.le_refl _, by unfold maxLen; omega, by simp, by simp [List.take_of_length_le]⟩⟩, .inr rfl⟩
/-- A block that is a Server. -/
def Blk (w : World) (r t : Nat) (C : Array Value) : Prop := w.heap[r]? = some (.cells C t (0, 0))
theorem Blk.lt {w : World} {r t : Nat} {C : Array Value} (h : Blk w r t C) : r < w.heap.size := (Array.getElem?_eq_some_iff.1 h).1
theorem Blk.below {w w' : World} {r t : Nat} {C : Array Value} (h : Blk w r t C) (hb : Below w.heap.size w w') : Blk w' r t C := (hb.block r h.lt).trans h
theorem Blk.only {w w' : World} {q : Nat → Prop} {r t : Nat} {C : Array Value} (h : Blk w r t C) (hb : Only q w w') (hq : ¬ q r) : Blk w' r t C := (hb.block r h.lt hq).trans h
theorem Blk.new (w : World) (t : Nat) (C : Array Value) : Blk (w.alloc (.cells C t)) w.heap.size t C := heap_alloc_new w _
theorem Blk.c {w : World} {r t : Nat} {C : Array Value} (h : Blk w r t C) (o : Nat) : w.cell? ⟨r, o, none⟩ = C[o]? := by unfold Blk at h; simp [World.cell?, h]
theorem Blk.fr {w : World} {r t : Nat} {C : Array Value} (h : Blk w r t C) (o : Nat) : w.frozen? ⟨r, o, none⟩ = false := by unfold Blk at h; simp [World.frozen?, h]
theorem Blk.range {w : World} {r t : Nat} {C : Array Value} (h : Blk w r t C) : w.rangeAt r 0 C.toList := by
  intro j v hv
  rw [h.c, Nat.zero_add]
  simpa using hv
def BoolR (w : World) (b : Bool) (e : Ending) (w' : World) : Prop := e = .returned (.bool b) ∧ Below w.heap.size w w'
set_option linter.unusedVariables false
set_option linter.unusedSimpArgs false
set_option maxRecDepth 100000

abbrev owB (p : Option Addr) (n c : Nat) (k : Nat) : Prop := (Value.slice p n c).ownBlock = some k
/-- A row of bytes of the call's own. -/
structure OB (w : World) (p : Option Addr) (n c : Nat) (l : List UInt8) : Prop where
  own : w.ownsRow 0 5 1 (.slice p n c) n (l.map B8)
  len : l.length = n
theorem OB.nil (w : World) : OB w none 0 0 [] := ⟨World.ownsRow_nil w 0 5 1, rfl⟩
theorem OB.only {w w' : World} {r : Nat → Prop} {p : Option Addr} {n c : Nat} {l : List UInt8} (h : OB w p n c l) (ho : Only r w w') (hd : ∀ k, owB p n c k → ¬ r k) : OB w' p n c l := ⟨owns_only h.own ho hd, h.len⟩
theorem OB.below {w w' : World} {p : Option Addr} {n c : Nat} {l : List UInt8} (h : OB w p n c l) (hb : Below w.heap.size w w') : OB w' p n c l := h.only (Only.of_below (r := fun _ => False) hb) (fun _ _ h => h)
theorem OB.at {w : World} {p : Option Addr} {n c : Nat} {l : List UInt8} (h : OB w p n c l) (g0 : Nat) : ∃ g, Own w g (.slice p n c) l ∧ (∀ k, owB p n c k → k = g) ∧ (g = g0 ∨ owB p n c g) := by
  have hl := h.len
  cases hb : (Value.slice p n c).ownBlock with
  | none => exact ⟨g0, by unfold Own; rw [hl]; exact ⟨h.own, .inl hb⟩, fun k hk => (by unfold owB at hk; rw [hb] at hk; cases hk), .inl rfl⟩
  | some g => exact ⟨g, by unfold Own; rw [hl]; exact ⟨h.own, .inr hb⟩, fun k hk => (by unfold owB at hk; rw [hb] at hk; cases hk; rfl), .inr hb⟩
theorem OB.of_own {w : World} {g n c : Nat} {p : Option Addr} {l : List UInt8} (h : Own w g (.slice p n c) l) : OB w p n c l ∧ ∀ k, owB p n c k → k = g := by
  obtain ⟨p', c', he, _⟩ := h.form
  cases he
  refine ⟨⟨h.1, rfl⟩, fun k hk => ?_⟩
  rcases h.2 with h2 | h2
  · unfold owB at hk; rw [h2] at hk; cases hk
  · unfold owB at hk; rw [h2] at hk; cases hk; rfl
theorem OB.nilc {w : World} {p : Option Addr} {n c : Nat} {l : List UInt8} (h : OB w p n c l) : p = none → c = 0 := by
  obtain ⟨g, ho, _⟩ := h.at 0
  obtain ⟨p', c', he, _, _, _, hp, _⟩ := ho.form
  cases he
  exact hp
theorem OB.rd {w : World} {p : Option Addr} {n c : Nat} {l : List UInt8} (h : OB w p n c l) : Rd w (fun k => owB p n c k) p l := by
  obtain ⟨g, ho, h1, h2⟩ := h.at (w.heap.size)
  obtain ⟨p', c', he, _, _, hr, _, ha⟩ := ho.form
  cases he
  refine hr.mono fun k hk e => ?_
  subst e
  rcases h2 with h2 | h2
  · omega
  · exact h2
theorem OB.lt {w : World} {p : Option Addr} {n c : Nat} {l : List UInt8} (h : OB w p n c l) (k : Nat) (hk : owB p n c k) : k < w.heap.size := by
  obtain ⟨g, ho, h1, h2⟩ := h.at 0
  obtain ⟨p', c', he, _, _, _, _, ha⟩ := ho.form
  cases he
  have := h1 k hk
  subst this
  cases p with
  | none => cases hk
  | some a => exact (ha a rfl).2
theorem only_fresh {w w' : World} (h : Only (· = w.heap.size) w w') : Only (fun _ => False) w w' := ⟨h.os, h.tape, h.output, h.size, fun k hk _ => h.block k hk (by omega)⟩
/-- append of bytes onto it. -/
theorem OB.app {w : World} {p : Option Addr} {n c : Nat} {l : List UInt8} (h : OB w p n c l) (T : Nat → Prop) (q : Option Addr) (m k : Nat) (l2 : List UInt8) (hm : l2.length = m) (hR : Rd w T q l2) (hq : q = none → k = 0) (hb : l.length + l2.length ≤ 140737488355328) :
    ∃ p' n' c' w', (Builtin.append_ #[38, 38] 38 #[.slice p n c, .slice q m k]).run Tryz.prog w = .ok (.slice p' n' c') w' ∧ OB w' p' n' c' (l ++ l2) ∧ (∀ k, owB p' n' c' k → owB p n c k ∨ k = w.heap.size) ∧ Only (fun k => owB p n c k) w w' := by
  subst hm
  obtain ⟨g, ho, h1, h2⟩ := h.at w.heap.size
  obtain ⟨g3, v3, w3, hr3, o3, hg3, hO3⟩ : ∃ g3 v3 w3, (Builtin.append_ #[38, 38] 38 #[.slice p n c, .slice q l2.length k]).run Tryz.prog w = .ok v3 w3 ∧ Own w3 g3 v3 (l ++ l2) ∧ (g3 = g ∨ g3 = w.heap.size) ∧ Only (· = g) w w3 := by
    exact run_append_bytes (P := Tryz.prog) w 38 38 Tryz.underlying38 Tryz.info5 g _ l ho T q l2.length k l2 rfl hq hR hb
  obtain ⟨p', c', rfl, _⟩ := o3.form
  have hof := OB.of_own o3
  refine ⟨p', _, c', w3, hr3, hof.1, fun k hk => ?_, ?_⟩
  · have := hof.2 k hk
    subst this
    rcases hg3 with h3 | h3
    · rcases h2 with h2 | h2
      · right; omega
      · left; rw [h3]; exact h2
    · exact .inr h3
  · rcases h2 with h2 | h2
    · subst h2
      exact (only_fresh hO3).mono (fun _ _ h => h.elim)
    · exact hO3.mono (fun k _ e => by rw [e]; exact h2)
theorem wpList_app8 {w : World} {ops : Array Oper} {rest : List Oper} {o : Oper} {a : Act} {Q : Exit → Act → World → Prop} (hgd : o.guard = none) (s x : Operand)
    (ho : (o.op, o.type) = (.call { callee := .builtin .append, args := #[s, x], argTypes := #[38, 38] }, 38)) {p : Option Addr} {n c : Nat} {l : List UInt8} (h : OB w p n c l) (hs : a.eval s = .slice p n c)
    (T : Nat → Prop) (q : Option Addr) (m k : Nat) (l2 : List UInt8) (hx : a.eval x = .slice q m k) (hm : l2.length = m) (hR : Rd w T q l2) (hq : q = none → k = 0) (hb : l.length + l2.length ≤ 140737488355328)
    (hK : ∀ p' n' c' w', OB w' p' n' c' (l ++ l2) → (∀ k, owB p' n' c' k → owB p n c k ∨ k = w.heap.size) → Only (fun k => owB p n c k) w w' → wpList Tryz.prog ops Q rest (a.put o.dst (.slice p' n' c')) w') : wpList Tryz.prog ops Q (o :: rest) a w := by
  obtain ⟨p', n', c', w', hr, h1, h2, h3⟩ := h.app T q m k l2 hm hR hq hb
  injection ho with e1 e2
  exact wpList_plain hgd fun K hK' => wp_append_run w s x 38 e1 _ _ hs hx (by rw [e2]; exact hr) (hK' _ _ (hK p' n' c' w' h1 h2 h3))
theorem step_app8 {w : World} {ops : Array Oper} {o : Oper} {a : Act} {K : Act → World → Prop} {Q : Exit → Act → World → Prop} {E : Prop} (hgd : o.guard = none) (s x : Operand)
    (ho : (o.op, o.type) = (.call { callee := .builtin .append, args := #[s, x], argTypes := #[38, 38] }, 38)) {p : Option Addr} {n c : Nat} {l : List UInt8} (h : OB w p n c l) (hs : a.eval s = .slice p n c)
    (T : Nat → Prop) (q : Option Addr) (m k : Nat) (l2 : List UInt8) (hx : a.eval x = .slice q m k) (hm : l2.length = m) (hR : Rd w T q l2) (hq : q = none → k = 0) (hb : l.length + l2.length ≤ 140737488355328)
    (hK : ∀ p' n' c' w', OB w' p' n' c' (l ++ l2) → (∀ k, owB p' n' c' k → owB p n c k ∨ k = w.heap.size) → Only (fun k => owB p n c k) w w' → K (a.put o.dst (.slice p' n' c')) w') :
    if Region.wanted o (yielded ops a.tmps) = true then Oper.wp Tryz.prog o a w K Q else E := by
  obtain ⟨p', n', c', w', hr, h1, h2, h3⟩ := h.app T q m k l2 hm hR hq hb
  injection ho with e1 e2
  exact step_builtin hgd s x _ _ e1 _ _ hs hx (by rw [e2]; exact hr) (hK p' n' c' w' h1 h2 h3)
/-- A call that tells a new row. -/
theorem PutYes.ob {w w' : World} {l : List UInt8} {e : Ending} (h : PutYes w l e w') : ∃ p n c, e = .returned (.slice p n c) ∧ OB w' p n c l ∧ (∀ k, owB p n c k → w.heap.size ≤ k) ∧ Below w.heap.size w w' := by
  obtain ⟨g, n, c, rfl, h1, h2, h3, h4, h5, h6, h7⟩ := h
  obtain ⟨h8, h9⟩ := OB.of_own h6
  exact ⟨_, n, c, rfl, h8, fun k hk => by have := h9 k hk; omega, h7⟩
def NewOB (w : World) (l : List UInt8) (e : Ending) (w' : World) : Prop := ∃ p n c, e = .returned (.slice p n c) ∧ OB w' p n c l ∧ (∀ k, owB p n c k → w.heap.size ≤ k) ∧ Below w.heap.size w w'
theorem PutYes.new {w w' : World} {l : List UInt8} {e : Ending} (h : PutYes w l e w') : NewOB w l e w' := h.ob
theorem OB.form {w : World} {p : Option Addr} {n c : Nat} {l : List UInt8} (h : OB w p n c l) : n ≤ c ∧ c ≤ maxLen ∧ (∀ x, p = some x → x.spot = none ∧ x.block < w.heap.size ∧ x.off = 0 ∧ owB p n c x.block) := by
  obtain ⟨g, ho, h1, h2⟩ := h.at 0
  obtain ⟨p', c', he, hc, hm, hr, hp, ha⟩ := ho.form
  have hl := h.len
  cases he
  refine ⟨hc, hm, fun x hx => ?_⟩
  obtain ⟨e, hlt⟩ := ha x hx
  subst e
  subst hx
  exact ⟨rfl, hlt, rfl, rfl⟩
theorem OB.pos {w : World} {p : Option Addr} {n c : Nat} {l : List UInt8} (h : OB w p n c l) (hn : 0 < n) : ∃ g, p = some ⟨g, 0, none⟩ ∧ owB p n c g ∧ g < w.heap.size := by
  obtain ⟨g, ho, h1, h2⟩ := h.at w.heap.size
  obtain ⟨p', c', he, hc, hm, hr, hp, ha⟩ := ho.form
  have hl := h.len
  cases he
  cases p with
  | none => have := hr.none_nil; subst this; simp at hn
  | some x =>
    obtain ⟨e, hlt⟩ := ha x rfl
    subst e
    exact ⟨g, rfl, rfl, hlt⟩
theorem hopM (n : Int) (m : Nat) (hm : 0 < m) (hb : m ≤ 4611686018427387904) : ∃ P : Nat, wrap64 ((IntKind.u64.wrap n).tmod (m : Int)) = (P : Int) ∧ P < m := by
  have h0 : 0 ≤ IntKind.u64.wrap n := by rw [IntKind.wrap_u64]; omega
  rw [Int.tmod_eq_emod_of_nonneg h0]
  generalize IntKind.u64.wrap n = y at h0
  have h1 : 0 ≤ y % (m : Int) ∧ y % (m : Int) < (m : Int) := ⟨Int.emod_nonneg _ (by omega), Int.emod_lt_of_pos _ (by omega)⟩
  generalize y % (m : Int) = x at h1
  rw [IntWalk.wrap64_in x ⟨by omega, by omega⟩]
  exact ⟨x.toNat, by omega, by omega⟩
theorem rd_take {w : World} {S : Nat → Prop} {p : Option Addr} {l : List UInt8} (h : Rd w S p l) (k : Nat) : Rd w S p (l.take k) := by
  intro i hi
  have hi2 : i < l.length := by rw [List.length_take] at hi; omega
  have := h i hi2
  rw [List.getElem_take]
  exact this
theorem rd_drop {w : World} {S : Nat → Prop} {g o k : Nat} {l : List UInt8} (h : Rd w S (some ⟨g, o, none⟩) l) : Rd w S (some ⟨g, o + k, none⟩) (l.drop k) := by
  intro i hi
  have hi2 : k + i < l.length := by rw [List.length_drop] at hi; omega
  obtain ⟨a, ha, hS, hc⟩ := h (k + i) hi2
  cases ha
  refine ⟨_, rfl, hS, ?_⟩
  rw [List.getElem_drop]
  have e1 : (⟨g, o, none⟩ : Addr).add (k + i) = ⟨g, o + (k + i), none⟩ := by unfold Addr.add; split <;> simp_all
  have e2 : (⟨g, o + k, none⟩ : Addr).add i = ⟨g, o + k + i, none⟩ := by unfold Addr.add; split <;> simp_all
  rw [e1] at hc
  rw [e2, Nat.add_assoc]
  exact hc
set_option linter.unusedVariables false
set_option linter.unusedSimpArgs false
set_option maxRecDepth 100000

theorem OB.set {w : World} {g n c k : Nat} {x : UInt8} {l : List UInt8} (h : OB w (some ⟨g, 0, none⟩) n c l) : OB (w.setCell ⟨g, k, none⟩ (B8 x)) (some ⟨g, 0, none⟩) n c (l.set k x) := by
  refine ⟨?_, by rw [List.length_set]; exact h.len⟩
  obtain ⟨h1, h2⟩ := h.own
  refine ⟨by rw [List.length_map, List.length_set]; rw [List.length_map] at h1; exact h1, .inr ?_⟩
  rcases h2 with ⟨hv, _⟩ | ⟨g', cap, cur, hv, hb, hg, hn, hc, hs, ht⟩
  · cases hv
  · cases hv
    refine ⟨g, c, cur.setIfInBounds k (B8 x), rfl, hb, ?_, hn, hc, by rw [Array.size_setIfInBounds]; exact hs, ?_⟩
    · simp [World.setCell, Array.getElem?_modify, hg]
    · rw [Array.toList_setIfInBounds, List.take_set, ht, List.map_set]
theorem frozen_ob {w : World} {g n c k : Nat} {l : List UInt8} (h : OB w (some ⟨g, 0, none⟩) n c l) : w.frozen? ⟨g, k, none⟩ = false := by
  obtain ⟨_, h2⟩ := h.own
  rcases h2 with ⟨hv, _⟩ | ⟨g', cap, cur, hv, hb, hg, _⟩
  · cases hv
  · cases hv
    simp [World.frozen?, hg]
theorem cell_ob {w : World} {g n c k : Nat} {l : List UInt8} (h : OB w (some ⟨g, 0, none⟩) n c l) (hk : k < l.length) : w.cell? ⟨g, k, none⟩ = some (B8 l[k]) := by
  obtain ⟨a, ha, _, hc⟩ := h.rd k hk
  cases ha
  have e : (⟨g, 0, none⟩ : Addr).add k = ⟨g, k, none⟩ := by unfold Addr.add; split <;> simp_all
  rw [e] at hc
  exact hc
/-- The world behind what is there, under a name of its own. -/
theorem wp_world {P : Program} {c : Code} {Q : Exit → Act → World → Prop} {a : Act} {w : World} (R : World → Prop) (hR : R w) (h : ∀ W, R W → c.wp P Q a W) : c.wp P Q a w := h w hR
end Go.Proofs.YtolgaapiedbkfaaGreat
/-
  The contracts of sha.primes and sha.roots, and of slices.IndexFunc and ContainsFunc as primes calls them. Condition: at most 64 of them.
-/
namespace Go.Proofs.YtolgaapiedbkfaaGreat
open Go.RowKit Go.Kx
set_option linter.unusedVariables false
set_option linter.unusedSimpArgs false
attribute [local go_sem ↓] U_add U_mul U_xor U_or U_and U_not U_shl U_shr U_guard1 U_guard2
attribute [local go_sem ↓] D_add D_mul D_xor D_or D_and D_not D_sub D_lss D_eql D_neq D_shl D_shr D_guard1 D_guard2 D_store U_store exec_bsD exec_bsU
attribute [local go_sem ↓] exec_stD exec_stU
attribute [local go_sem] bs1_D bs1_U st1_D st1_U st1_i

/-- A variable of one cell. -/
def Var (w : World) (b t : Nat) (v : Value) : Prop := w.heap[b]? = some (.cells #[v] t (0, 0))
theorem Var.c {w : World} {b t : Nat} {v : Value} (h : Var w b t v) : w.cell? ⟨b, 0, none⟩ = some v := by unfold Var at h; simp [World.cell?, h]
theorem Var.fr {w : World} {b t : Nat} {v : Value} (h : Var w b t v) : w.frozen? ⟨b, 0, none⟩ = false := by unfold Var at h; simp [World.frozen?, h]
theorem Var.lt {w : World} {b t : Nat} {v : Value} (h : Var w b t v) : b < w.heap.size := (Array.getElem?_eq_some_iff.1 h).1
theorem Var.only {w w' : World} {q : Nat → Prop} {b t : Nat} {v : Value} (h : Var w b t v) (ho : Only q w w') (hd : ¬ q b) : Var w' b t v := (ho.block b h.lt hd).trans h
theorem Var.below {w w' : World} {b t : Nat} {v : Value} (h : Var w b t v) (ho : Below w.heap.size w w') : Var w' b t v := (ho.block b h.lt).trans h
theorem Var.new (w : World) (t : Nat) (v : Value) : Var (w.alloc (.cells #[v] t)) w.heap.size t v := heap_alloc_new w _

theorem divides_c (q p : UInt64) (B : Nat) (w : World) (hq : q ≠ 0) (hc : w.cell? ⟨B, 0, none⟩ = some (D p)) :
    Calls Tryz.prog 169 #[D q, .pointer (some ⟨B, 0, none⟩)] w fun e w' => e = .returned (.bool (decide (p % q = 0))) ∧ w = w' := by
  have hr := fun (w : World) => D_rem (P := Tryz.prog) (w := w) (t := 35) p q hq
  have k0 : Value.int .u64 0 = D 0 := rfl
  go_enter Tryz.func169, Tryz.ntmps169
  go_wp2
  go_ret
  exact ⟨rfl, rfl⟩

/-- Numbers that lie in a row. -/
def NumsAt (w : World) (p : Option Addr) (qs : List UInt64) : Prop := ∀ i (h : i < qs.length), ∃ g o, p = some ⟨g, o, none⟩ ∧ w.cell? ⟨g, o + i, none⟩ = some (D qs[i])

def IdxR (w : World) (qs : List UInt64) (p : UInt64) (e : Ending) (w' : World) : Prop := ∃ r : Int, e = .returned (.int .i64 r) ∧ decide (0 ≤ r) = qs.any (fun q => decide (p % q = 0)) ∧ w = w'

theorem index_c (a : Option Addr) (n c : Nat) (qs : List UInt64) (p : UInt64) (B : Nat) (w : World) (hN : NumsAt w a qs) (hl : qs.length = n) (hm : n ≤ 1000) (h0 : ∀ q ∈ qs, q ≠ 0) (hc : w.cell? ⟨B, 0, none⟩ = some (D p)) :
    Calls Tryz.prog 177 #[.slice a n c, .func (.func 169) #[] #[.pointer (some ⟨B, 0, none⟩)]] w (IdxR w qs p) := by
  subst hl
  go_enter Tryz.func177, Tryz.ntmps177
  go_wp2
  go_loop [8] (fun v8 => ∃ i : Nat, v8 = .int .i64 (i : Int) ∧ i ≤ qs.length ∧ (qs.take i).any (fun q => decide (p % q = 0)) = false) (fun v8 => qs.length - (intOf v8).toNat)
  case atStart => exact ⟨0, rfl, by omega, rfl⟩
  case round =>
    obtain ⟨i, rfl, hi, hany⟩ := hrel
    have HA := Lib.hid hany
    clear hany
    by_cases hlt : i < qs.length
    · obtain ⟨g, o, rfl, hcell⟩ := hN i hlt
      have hlI : (i : Int) < (qs.length : Int) := by omega
      have hq0 : qs[i] ≠ 0 := h0 _ (List.getElem_mem hlt)
      have hts : qs.take (i + 1) = qs.take i ++ [qs[i]] := List.take_succ_eq_append_getElem hlt
      have HT := Lib.hid hts
      obtain ⟨q, hq⟩ : ∃ q, q = qs[i] := ⟨_, rfl⟩
      rw [← hq] at hcell hq0
      have HQ := Lib.hid hq
      clear hts hq
      have HD := Lib.hid h0
      clear h0 hN
      by_cases hd : p % q = 0
      · have hb : decide (p % q = 0) = true := decide_eq_true hd
        go_wp2_with (go_at_call 169; refine (divides_c q p B _ hq0 hc).mono ?_; rintro e w' ⟨rfl, rfl⟩)
        go_ret
        refine ⟨(i : Int), rfl, ?_, rfl⟩
        have hmem : q ∈ qs := by rw [HQ.out]; exact List.getElem_mem hlt
        rw [decide_eq_true (by omega : (0 : Int) ≤ (i : Int))]
        exact (List.any_eq_true.2 ⟨q, hmem, hb⟩).symm
      · have hb : decide (p % q = 0) = false := decide_eq_false hd
        go_wp2_with (go_at_call 169; refine (divides_c q p B _ hq0 hc).mono ?_; rintro e w' ⟨rfl, rfl⟩)
        exact ⟨⟨i + 1, by simp, by omega, by rw [HT.out, List.any_append, HA.out, ← HQ.out]; simp [hd]⟩, by simp [intOf]; omega⟩
    · have hlI : ¬ (i : Int) < (qs.length : Int) := by omega
      go_wp2
      go_ret
      have : qs.take i = qs := List.take_of_length_le (by omega)
      exact ⟨-1, rfl, by rw [← this, HA.out]; rfl, rfl⟩

theorem contains_c (a : Option Addr) (n c : Nat) (qs : List UInt64) (p : UInt64) (B : Nat) (w : World) (hN : NumsAt w a qs) (hl : qs.length = n) (hm : n ≤ 1000) (h0 : ∀ q ∈ qs, q ≠ 0) (hc : w.cell? ⟨B, 0, none⟩ = some (D p)) :
    Calls Tryz.prog 168 #[.slice a n c, .func (.func 169) #[] #[.pointer (some ⟨B, 0, none⟩)]] w (fun e w' => e = .returned (.bool (qs.any (fun q => decide (p % q = 0)))) ∧ w = w') := by
  obtain ⟨bb, hbb⟩ : ∃ bb, bb = qs.any (fun q => decide (p % q = 0)) := ⟨_, rfl⟩
  rw [← hbb]
  have HB := Lib.hid hbb
  clear hbb
  have H := Lib.hid (index_c a n c qs p B w hN hl hm h0 hc)
  clear hN hl hm h0 hc
  go_enter Tryz.func168, Tryz.ntmps168
  go_wp2_with (go_at_call 177; refine H.out.mono ?_; rintro e w' ⟨r, rfl, hr, rfl⟩; rw [← HB.out] at hr)
  go_ret
  exact ⟨by first | rfl | (rw [← hr]), rfl⟩

/-! ### primes -/
/-- The primes from 2 on, of so many numbers. -/
def pr : Nat → List UInt64
  | 0 => []
  | k + 1 => if (pr k).any (fun q => decide (UInt64.ofNat (k + 2) % q = 0)) then pr k else pr k ++ [UInt64.ofNat (k + 2)]
theorem pr_succ (k : Nat) : pr (k + 1) = if (pr k).any (fun q => decide (UInt64.ofNat (k + 2) % q = 0)) then pr k else pr k ++ [UInt64.ofNat (k + 2)] := rfl
theorem pr_prefix (k j : Nat) : ∃ t, pr (k + j) = pr k ++ t := by
  induction j with
  | zero => exact ⟨[], by simp⟩
  | succ j ih =>
    obtain ⟨t, ht⟩ := ih
    rw [show k + (j + 1) = (k + j) + 1 by omega, pr_succ]
    split
    · exact ⟨t, ht⟩
    · exact ⟨t ++ [_], by rw [ht, List.append_assoc]⟩
theorem pr_len : (pr 310).length = 64 := by decide +kernel
/-- The first so many. -/
def primesL (n : Nat) : List UInt64 := (pr 310).take n
theorem pr_take {k n : Nat} (hk : k ≤ 310) (h : (pr k).length = n) : pr k = primesL n := by
  obtain ⟨t, ht⟩ := pr_prefix k (310 - k)
  rw [show k + (310 - k) = 310 by omega] at ht
  unfold primesL
  rw [ht, ← h, List.take_left']
  rfl
theorem pr_bound {k n : Nat} (hn : n ≤ 64) (h : (pr k).length < n) : k < 310 := by
  apply Nat.lt_of_not_le
  intro hk
  obtain ⟨t, ht⟩ := pr_prefix 310 (k - 310)
  rw [show 310 + (k - 310) = k by omega] at ht
  rw [ht, List.length_append, pr_len] at h
  omega
theorem pr_ne (k : Nat) (hk : k ≤ 1000) : ∀ q ∈ pr k, q ≠ 0 := by
  induction k with
  | zero => intro q hq; cases hq
  | succ k ih =>
    intro q hq
    rw [pr_succ] at hq
    split at hq
    · exact ih (by omega) q hq
    · rw [List.mem_append, List.mem_singleton] at hq
      rcases hq with hq | rfl
      · exact ih (by omega) q hq
      · intro h
        have := congrArg UInt64.toNat h
        rw [UInt64.toNat_ofNat', Nat.mod_eq_of_lt (by omega)] at this
        simp at this

theorem Tryz.infoD : (Tryz.prog.info? 35).map (fun i => (i.zero, i.size, i.bytes)) = some (some (.int .u64 0), 1, 8) := by kernel_rfl
theorem Tryz.infoU : (Tryz.prog.info? 173).map (fun i => (i.zero, i.size, i.bytes)) = some (some (.int .u32 0), 1, 4) := by kernel_rfl

/-- A row of numbers of the call's own. -/
def RowD (w : World) (g : Nat) (v : Value) (l : List UInt64) : Prop := Row w 35 1 g v l.length (l.map D)
def RowU (w : World) (g : Nat) (v : Value) (l : List UInt32) : Prop := Row w 173 1 g v l.length (l.map U)
theorem RowD.nums {w : World} {g : Nat} {p : Option Addr} {n c : Nat} {l : List UInt64} (h : RowD w g (.slice p n c) l) : l.length = n ∧ NumsAt w p l ∧ (0 < n → g < w.heap.size) := by
  obtain ⟨p', c', hv, h1, h2⟩ := Row.form h
  cases hv
  refine ⟨rfl, fun i hi => ?_, fun h => (h1 h).2⟩
  obtain ⟨rfl, _⟩ := h1 (by omega)
  exact ⟨g, 0, rfl, by rw [Nat.zero_add]; exact h2 i (D l[i]) (by simp [hi])⟩

def PrRel (w : World) (n : Nat) (v3 v4 : Value) (wr : World) : Prop := ∃ k g b, v4 = .pointer (some ⟨b, 0, none⟩) ∧ (pr k).length ≤ n ∧ k ≤ 310 ∧ Var wr b 35 (D (UInt64.ofNat (k + 2))) ∧ RowD wr g v3 (pr k) ∧ g ≠ b ∧ w.heap.size ≤ g ∧ w.heap.size ≤ b ∧ Below w.heap.size w wr
def PrMeas (v3 v4 : Value) (wr : World) : Nat := match v4 with
  | .pointer (some ⟨b, 0, none⟩) => match wr.cell? ⟨b, 0, none⟩ with
    | some (.int .u64 n) => 400 - n.toNat
    | _ => 0
  | _ => 0
theorem PrMeas_at {v3 : Value} {b k : Nat} {wr : World} (hk : k ≤ 310) (h : Var wr b 35 (D (UInt64.ofNat (k + 2)))) : PrMeas v3 (.pointer (some ⟨b, 0, none⟩)) wr = 398 - k := by
  have e : UInt64.toNat (UInt64.ofNat (k + 2)) = k + 2 := by rw [UInt64.toNat_ofNat', Nat.mod_eq_of_lt (by omega)]
  unfold PrMeas
  simp only [h.c, D, e]
  omega

def PrR (w : World) (n : Nat) (e : Ending) (w' : World) : Prop := ∃ g p c, e = .returned (.slice p n c) ∧ RowD w' g (.slice p n c) (primesL n) ∧ w.heap.size ≤ g ∧ Below w.heap.size w w'

set_option maxHeartbeats 2000000 in
theorem primes_c (n : Nat) (w : World) (hn : 1 ≤ n ∧ n ≤ 64) : Calls Tryz.prog 148 #[.int .i64 (n : Int)] w (PrR w n) := by
  have k1 : Value.int .u64 1 = D 1 := rfl
  go_enter Tryz.func148, Tryz.ntmps148
  go_wp2
  go_loopw [3, 4] (fun v3 v4 wr => PrRel w n v3 v4 wr) (fun v3 v4 wr => PrMeas v3 v4 wr)
  case atStart =>
    exact ⟨0, w.heap.size + 1, w.heap.size, rfl, by simp [pr], by omega, Var.new _ _ _, Row.nil _ _ _ _, by omega, by omega, by omega, (Below.refl _ _).alloc (Nat.le_refl _) _⟩
  case round =>
    obtain ⟨k, g, b, rfl, hl, hk, hV, hO, hgb, hg, hb, hB⟩ := hrel
    have hM := PrMeas_at (v3 := u3) hk hV
    obtain ⟨p3, c3, rfl, hf1, hf2⟩ := Row.form hO
    obtain ⟨hN1, hN2, hN3⟩ := hO.nums
    obtain ⟨P, hP⟩ : ∃ P, P = UInt64.ofNat (k + 2) := ⟨_, rfl⟩
    have hP1 : UInt64.ofNat (k + 1 + 2) = P + 1 := by
      apply UInt64.toNat_inj.1
      rw [hP, UInt64.toNat_add, UInt64.toNat_ofNat', UInt64.toNat_ofNat']
      show _ = ((k + 2) % 2 ^ 64 + 1) % 2 ^ 64
      omega
    rw [← hP] at hV
    obtain ⟨L, hL⟩ : ∃ L, L = (pr k).length := ⟨_, rfl⟩
    rw [← hL] at hl hM hO hN3 hf1 ⊢
    have hN1' := hN1
    have HP := Lib.hid (And.intro hP (And.intro hP1 hL))
    have hR : Row wr 35 1 g (.slice p3 L c3) L ((pr k).map D) := by have h := hO; unfold RowD at h; rw [← hL] at h; exact h
    have HR := Lib.hid hR
    have HH := Lib.hid (And.intro hV (And.intro hO (And.intro hB (And.intro hM hN2))))
    have cb := hV.c
    have hbl := hV.lt
    have hne := pr_ne k (by omega)
    have HNE := Lib.hid hne
    have hsz := hB.size
    have hL1 : L ≤ 1000 := by omega
    clear hP hP1 hV hO hB hM hf1 hf2 hN2 hne hN1 hL hR
    by_cases hlt : L < n
    · have hlI : (L : Int) < (n : Int) := by omega
      have hk2 : k < 310 := pr_bound hn.2 (by rw [← HP.out.2.2]; exact hlt)
      have cont := fun (w' : World) (hc : w'.cell? ⟨b, 0, none⟩ = some (D P)) (hN : NumsAt w' p3 (pr k)) => contains_c p3 L c3 (pr k) P b w' hN HP.out.2.2.symm hL1 HNE.out hc
      have CT := Lib.hid cont
      clear cont
      obtain ⟨bb, hbb⟩ : ∃ bb, bb = (pr k).any (fun q => decide (P % q = 0)) := ⟨_, rfl⟩
      rw [← hbb] at CT
      have HBB := Lib.hid hbb
      clear hbb
      cases bb
      · go_wp2_with (first
          | (go_at_call 168; refine (CT.out _ cb HH.out.2.2.2.2).mono ?_; rintro e w' ⟨rfl, rfl⟩)
          | (at_builtin; refine wpList_append_row rfl _ _ 237 rfl 35 (.int .u64 0) 1 8 Tryz.underlying237 Tryz.infoD rfl (by decide) g (.slice p3 L c3) L ((pr k).map D) rfl (Row.only HR.out ((Only.refl (fun _ => False) wr).alloc _) (fun h => h)) ⟨wr.heap.size, 0, none⟩ 1 1 [D P] rfl rfl (cell_one wr _ _) (by simp [Value.oneCell', D]) (by unfold maxLen; omega) (by omega) (wr.heap.size + 1) (by simp) ?_; intro g' v' w1 hrow hg' hO1; have hV1 : Var w1 b 35 (D P) := (HH.out.1.below ((Below.refl _ _).alloc (Nat.le_refl _) (.cells #[D P] 35))).only hO1 (by omega); have cb1 := hV1.c))
        have hs1 := hO1.size
        simp only [World.size_alloc] at hs1
        have hpr : pr (k + 1) = pr k ++ [P] := by rw [pr_succ, ← HP.out.1, ← HBB.out]; rfl
        obtain ⟨q, c', hv', z1, z2⟩ := Row.form hrow
        have hgl := (z1 (by omega)).2
        have hB1 : Below w.heap.size w w1 := below_only (HH.out.2.2.1.alloc hsz _) (by simp; omega) hO1 (by intro x hx e; omega)
        have hVn := Var.new w1 35 (D (UInt64.ofNat (k + 1 + 2)))
        have hm1 := PrMeas_at (v3 := v') (by omega) hVn
        rw [HP.out.2.1] at hVn hm1
        refine ⟨⟨k + 1, g', w1.heap.size, rfl, by rw [hpr, List.length_append, ← HP.out.2.2]; exact hlt, by omega, by rw [HP.out.2.1]; exact hVn, ?_, by omega, by omega, by omega, hB1.alloc hB1.size _⟩, by rw [hm1, HH.out.2.2.2.1]; omega⟩
        unfold RowD
        rw [hpr, List.length_append, List.map_append, ← HP.out.2.2]
        exact Row.only hrow ((Only.refl (fun _ => False) w1).alloc _) (fun h => h)
      · go_wp2_with (go_at_call 168; refine (CT.out _ cb HH.out.2.2.2.2).mono ?_; rintro e w' ⟨rfl, rfl⟩)
        have hpr : pr (k + 1) = pr k := by rw [pr_succ, ← HP.out.1, ← HBB.out]; rfl
        have hVn := Var.new wr 35 (D (UInt64.ofNat (k + 1 + 2)))
        have hm1 := PrMeas_at (v3 := .slice p3 L c3) (by omega) hVn
        rw [HP.out.2.1] at hVn hm1
        by_cases hL0 : 0 < L
        · refine ⟨⟨k + 1, g, wr.heap.size, rfl, by rw [hpr, ← HP.out.2.2]; exact hl, by omega, by rw [HP.out.2.1]; exact hVn, ?_, by have := hN3 hL0; omega, by omega, by omega, HH.out.2.2.1.alloc hsz _⟩, by rw [hm1, HH.out.2.2.2.1]; omega⟩
          rw [hpr]
          exact Row.only HH.out.2.1 ((Only.refl (fun _ => False) wr).alloc _) (fun h => h)
        · exfalso
          have h0 : pr k = [] := List.eq_nil_of_length_eq_zero (by rw [← HP.out.2.2]; omega)
          have := HBB.out
          rw [h0] at this
          cases this
    · have hlI : ¬ (L : Int) < (n : Int) := by omega
      obtain rfl : L = n := by omega
      go_wp2
      go_ret
      exact ⟨g, p3, c3, rfl, by rw [← pr_take hk HP.out.2.2.symm]; exact HH.out.2.1, hg, HH.out.2.2.1⟩

/-! ### roots -/
def rootsL (n : Nat) (cube : Bool) : List UInt32 := (primesL n).map fun p => rootU p cube
theorem primesL_len {n : Nat} (h : n ≤ 64) : (primesL n).length = n := by unfold primesL; rw [List.length_take, pr_len]; omega
theorem NumsAt.below {w w' : World} {p : Option Addr} {qs : List UInt64} (h : NumsAt w p qs) (hb : Below w.heap.size w w') : NumsAt w' p qs := by
  intro i hi
  obtain ⟨g, o, h1, h2⟩ := h i hi
  exact ⟨g, o, h1, (hb.cell (p := ⟨g, o + i, none⟩) (World.block_lt_of_cell? _ _ h2)).trans h2⟩
def RoRel (w1 : World) (n : Nat) (cube : Bool) (v5 v11 : Value) (wr : World) : Prop := ∃ (i g : Nat), v11 = .int .i64 (i : Int) ∧ i ≤ n ∧ Row wr 173 1 g v5 i (((rootsL n cube).take i).map U) ∧ w1.heap.size ≤ g ∧ Below w1.heap.size w1 wr
def RoR (w : World) (n : Nat) (cube : Bool) (e : Ending) (w' : World) : Prop := ∃ g c, e = .returned (.slice (some ⟨g, 0, none⟩) n c) ∧ Row w' 173 1 g (.slice (some ⟨g, 0, none⟩) n c) n ((rootsL n cube).map U) ∧ w.heap.size ≤ g ∧ g < w'.heap.size ∧ Below w.heap.size w w'

set_option maxHeartbeats 2000000 in
theorem roots_c (n : Nat) (cube : Bool) (w : World) (hn : 1 ≤ n ∧ n ≤ 64) : Calls Tryz.prog 112 #[.int .i64 (n : Int), .bool cube] w (RoR w n cube) := by
  have hpl := primesL_len hn.2
  have HPL := Lib.hid hpl
  have HRL := Lib.hid (show (rootsL n cube).length = n by unfold rootsL; rw [List.length_map]; exact hpl)
  clear hpl
  go_enter Tryz.func112, Tryz.ntmps112
  go_wp2_with (go_at_call 148; refine (primes_c n _ hn).mono ?_; rintro e w1 ⟨g0, p0, c0, rfl, hrow, hg0, hB⟩; have HN := Lib.hid hrow.nums.2.1; have HB := Lib.hid hB; clear hrow hB)
  go_loopw [5, 11] (fun v5 v11 wr => RoRel w1 n cube v5 v11 wr) (fun _ v11 _ => n - (intOf v11).toNat)
  case atStart => exact ⟨0, w1.heap.size, rfl, by omega, Row.nil _ _ _ _, by omega, Below.refl _ _⟩
  case round =>
    obtain ⟨i, g, rfl, hi, hO, hg, hB1⟩ := hrel
    have HO := Lib.hid hO
    have HB1 := Lib.hid hB1
    clear hO hB1
    by_cases hlt : i < n
    · have hlI : (i : Int) < (n : Int) := by omega
      have hip : i < (primesL n).length := by rw [HPL.out]; exact hlt
      obtain ⟨gq, oq, rfl, hcell⟩ := (HN.out.below HB1.out) i hip
      have htk : (rootsL n cube).take (i + 1) = (rootsL n cube).take i ++ [rootU ((primesL n)[i]'hip) cube] := by
        have hir : i < (rootsL n cube).length := by rw [HRL.out]; exact hlt
        rw [List.take_succ_eq_append_getElem hir]
        simp [rootsL]
      obtain ⟨P, hP⟩ : ∃ P, P = (primesL n)[i]'hip := ⟨_, rfl⟩
      rw [← hP] at htk hcell
      have HT := Lib.hid htk
      clear htk hP hip
      go_wp2_with (first
        | (go_at_call 149; refine (root_c P cube _).mono ?_; rintro e w' ⟨rfl, rfl⟩)
        | (at_builtin; refine wpList_append_row rfl _ _ 192 rfl 173 (.int .u32 0) 1 4 Tryz.underlying192 Tryz.infoU rfl (by decide) g _ i (((rootsL n cube).take i).map U) rfl (Row.only HO.out ((Only.refl (fun _ => False) wr).alloc _) (fun h => h)) ⟨wr.heap.size, 0, none⟩ 1 1 [U (rootU P cube)] rfl rfl (cell_one wr _ _) (by simp [Value.oneCell', U]) (by unfold maxLen; omega) (by omega) (wr.heap.size + 1) (by simp) ?_; intro g' v' w2 hrow hg' hO1))
      have hs1 := hO1.size
      have hsz := HB1.out.size
      simp only [World.size_alloc] at hs1
      refine ⟨⟨i + 1, g', by simp, by omega, by rw [HT.out, List.map_append]; exact hrow, by omega, below_only (HB1.out.alloc hsz _) (by simp; omega) hO1 (by intro x hx e; omega)⟩, by simp [intOf]; omega⟩
    · have hlI : ¬ (i : Int) < (n : Int) := by omega
      obtain rfl : i = n := by omega
      obtain ⟨q, c', hv', z1, z2⟩ := Row.form HO.out
      obtain ⟨rfl, hgl⟩ := z1 (by omega)
      subst hv'
      go_wp2
      go_ret
      refine ⟨g, c', rfl, ?_, by have := HB.out.size; omega, hgl, HB.out.trans (HB1.out.mono HB.out.size)⟩
      have ht : (rootsL i cube).take i = rootsL i cube := List.take_of_length_le (by rw [HRL.out]; omega)
      have h := HO.out
      rw [ht] at h
      exact h
end Go.Proofs.YtolgaapiedbkfaaGreat
/-
  append of one byte that is written out, onto a row of the call's own. Of any program; conditions: those of each theorem.
-/
namespace Go.Kx
open Go.RowKit
theorem Own.row {w : World} {g n : Nat} {v : Value} {l : List UInt8} (h : Own w g v l) (hn : l.length = n) : Row w 5 1 g v n (l.map B8) := by subst hn; exact h
/-- What stays below, behind an append of one byte. -/
theorem app_below {w0 w w' : World} {N g : Nat} {o : Obj} (hB : Below N w0 w) (hg : N ≤ g) (hs : N ≤ w.heap.size) (hO : Only (· = g) (w.alloc o) w') : Below N w0 w' :=
  below_only (hB.alloc hs o) (by simp; omega) hO (by intro x hx e; omega)
theorem cell_one' (w : World) (x : Value) (t : TypeId) : ∀ j u, [x][j]? = some u → (w.alloc (.cells #[x] t)).cell? ((⟨w.heap.size, 0, none⟩ : Addr).add j) = some u := by
  intro j u hu
  cases j with
  | zero => simp at hu; subst hu; simp [Addr.add, World.cell?_alloc_at]
  | succ j => simp at hu

theorem wpList_append_byte {P : Program} {w : World} {ops : Array Oper} {rest : List Oper} {o : Oper} {a : Act} {Q : Exit → Act → World → Prop} (hgd : o.guard = none) (s x : Operand) (t : TypeId)
    (ho : o.op = .call { callee := .builtin .append, args := #[s, x], argTypes := #[t, t] })
    (ht : P.underlying t = some (.slice 5)) (hi : (P.info? 5).map (fun i => (i.zero, i.size, i.bytes)) = some (some (.int .u8 0), 1, 1))
    (g : Nat) (v : Value) (l : List UInt8) (hs : a.eval s = v) (hown : Own w g v l) (X : Int) (b : UInt8) (hX : X = (b.toNat : Int))
    (hx : a.eval x = .slice (some ⟨w.heap.size, 0, none⟩) 1 1) (hb : l.length + 1 ≤ 140737488355328)
    (h : ∀ g' c' w', Own w' g' (.slice (some ⟨g', 0, none⟩) (l.length + 1) c') (l ++ [b]) → (g' = g ∨ g' = w.heap.size + 1) → g' < w'.heap.size → l.length + 1 ≤ c' → c' ≤ maxLen → Only (· = g) (w.alloc (.cells #[.int .u8 X] 5)) w' → wpList P ops Q rest (a.put o.dst (.slice (some ⟨g', 0, none⟩) (l.length + 1) c')) w') :
    wpList P ops Q (o :: rest) a (w.alloc (.cells #[.int .u8 X] 5)) := by
  subst hX
  refine wpList_append_row hgd s x t ho 5 (.int .u8 0) 1 1 ht hi rfl (by decide) g v l.length (l.map B8) hs (Row.only (hown.row rfl) ((Only.refl (fun _ => False) w).alloc _) (fun h => h)) ⟨w.heap.size, 0, none⟩ 1 1 [B8 b] hx rfl (cell_one' w _ _) (by simp [Value.oneCell']) (by unfold maxLen; omega) (by omega) (w.heap.size + 1) (by simp) ?_
  intro g' v' w' hrow hg' hO
  have hw : Own w' g' v' (l ++ [b]) := by unfold Own; rw [List.length_append, List.map_append]; exact hrow
  obtain ⟨p, c, rfl, h1, h2, h3, h4, h5⟩ := hw.form
  cases p with
  | none => have h0 := h3.none_nil; simp at h0
  | some ad =>
    obtain ⟨rfl, hl⟩ := h5 ad rfl
    have e : (l ++ [b]).length = l.length + 1 := by simp
    rw [e] at hw h1 ⊢
    exact h g' c w' hw hg' hl h1 h2 hO
/-- A quiet call behind draws that were made ahead. -/
theorem quiet_on {P : Program} {f : FuncId} {args : Array Value} {w : World} {a n : Nat} {v : Value} (h : Calls P f args (w.drewN (a + n)) fun e w' => e = .returned v ∧ w' = w.drewN (a + n)) :
    Calls P f args (w.drewN (a + n)) fun e w'' => e = .returned v ∧ ∃ m, w'' = w.drewN (a + m) := h.mono fun _ _ h => ⟨h.1, n, h.2⟩
theorem Only.of_belowN {N : Nat} {w w' : World} (h : Below N w w') : Only (fun k => N ≤ k) w w' := ⟨h.os, h.tape, h.output, h.size, fun k _ hn => h.block k (by omega)⟩
end Go.Kx
/-
  The contract of sha.padded. Condition: at most 2 to the 47th bytes, less two thousand.
-/
namespace Go.Proofs.YtolgaapiedbkfaaGreat
open Go.RowKit Go.Kx
set_option linter.unusedVariables false
set_option linter.unusedSimpArgs false
attribute [local go_sem ↓] D_add D_mul D_or D_and D_sub D_shl

/-- So many noughts are put behind. -/
def padZ (L : Nat) : Nat := (119 - L % 64) % 64
def padL (b : List UInt8) : List UInt8 := (b ++ [128]) ++ List.replicate (padZ b.length) 0 ++ be (8 * b.length) 8
theorem padZ_end (L : Nat) : (L + 1 + padZ L) % 64 = 56 := by unfold padZ; omega
theorem padZ_not {L k : Nat} (h : k < padZ L) : (L + 1 + k) % 64 ≠ 56 := by unfold padZ at h; omega
theorem padZ_lt (L : Nat) : padZ L < 64 := by unfold padZ; omega
theorem padL_len (b : List UInt8) : (padL b).length % 64 = 0 ∧ (padL b).length ≤ b.length + 73 := by
  have h1 := padZ_end b.length
  have h2 := padZ_lt b.length
  unfold padL
  simp only [List.length_append, List.length_replicate, be_length, List.length_cons, List.length_nil]
  omega

def PadR (w : World) (X : List UInt8) (e : Ending) (w' : World) : Prop := ∃ g n c, e = .returned (.slice (some ⟨g, 0, none⟩) n c) ∧ X.length = n ∧ Own w' g (.slice (some ⟨g, 0, none⟩) n c) X ∧ w.heap.size ≤ g ∧ g < w'.heap.size ∧ n ≤ c ∧ c ≤ maxLen ∧ Below w.heap.size w w'

def PadA (w : World) (b : List UInt8) (v3 : Value) (wr : World) : Prop := ∃ (k g m c : Nat), v3 = .slice (some ⟨g, 0, none⟩) m c ∧ m = b.length + 1 + k ∧ k ≤ padZ b.length ∧ Own wr g (.slice (some ⟨g, 0, none⟩) m c) ((b ++ [128]) ++ List.replicate k 0) ∧ w.heap.size ≤ g ∧ g < wr.heap.size ∧ Below w.heap.size w wr
def PadM (b : List UInt8) (v3 : Value) : Nat := match v3 with
  | .slice _ n _ => b.length + 100 - n
  | _ => 0

/-- The lowest byte. -/
def cut8 (x : UInt64) : UInt8 := UInt8.ofNat x.toNat
theorem cvD8 (x : UInt64) (w : World) : (convert 35 5 (D x)).run Tryz.prog w = .ok (.int .u8 ((cut8 x).toNat : Int)) w := by
  unfold cut8
  have hk : Tryz.prog.intKind 5 = .u8 := by kernel_rfl
  have h2 := run_convert_int (P := Tryz.prog) (w := w) 35 5 .u64 (x.toNat : Int) (by rw [Tryz.underlying35]; rfl) (by rw [hk]; exact Tryz.underlying5)
  have h : IntKind.u8.wrap (x.toNat : Int) = ((UInt8.ofNat x.toNat).toNat : Int) := by
    rw [UInt8.toNat_ofNat']
    unfold IntKind.wrap
    simp [IntKind.bits, IntKind.signed]
  rw [hk, h] at h2
  exact h2
def PadB (w : World) (b : List UInt8) (v3 v5 : Value) (wr : World) : Prop := ∃ (i : Nat) (z : Int) (g m c : Nat) (dn : List UInt8), v3 = .slice (some ⟨g, 0, none⟩) m c ∧ v5 = .int .i64 z ∧ i ≤ 8 ∧ z = (i : Int) - 1 ∧ ((b ++ [128]) ++ List.replicate (padZ b.length) 0 ++ dn).length = m ∧
  Own wr g (.slice (some ⟨g, 0, none⟩) m c) ((b ++ [128]) ++ List.replicate (padZ b.length) 0 ++ dn) ∧ dn ++ be (8 * b.length) i = be (8 * b.length) 8 ∧ w.heap.size ≤ g ∧ g < wr.heap.size ∧ Below w.heap.size w wr

set_option maxHeartbeats 4000000 in
set_option maxRecDepth 10000 in
theorem padded_c (S : Nat → Prop) (p : Option Addr) (n c : Nat) (b : List UInt8) (w : World) (hR : Rd w S p b) (hp : p = none → c = 0) (hl : b.length + 2000 ≤ 140737488355328) (hn : b.length = n) :
    Calls Tryz.prog 113 #[.slice p n c] w (PadR w (padL b)) := by
  subst hn
  have HR := Lib.hid (And.intro hR hp)
  clear hR hp
  go_enter Tryz.func113, Tryz.ntmps113
  go_wp2_with (first
    | (at_builtin; have hq := HO1.out.1; refine wpList_append_byte rfl _ _ 38 rfl Tryz.underlying38 Tryz.info5 g1 v1 b rfl hq 128 128 rfl rfl (by omega) ?_; intro g2 c2 w2 ho2 hg2 hl2 hc2 hm2 hO2; clear hq)
    | (at_builtin; refine wpList_append_bytes _ rfl _ _ 38 rfl Tryz.underlying38 Tryz.info5 w.heap.size _ [] rfl (Own.new w) S _ _ _ b rfl rfl HR.out.2 (HR.out.1.below ((Below.refl _ _).alloc (Nat.le_refl _) (.cells #[] 5))) (by simp; omega) ?_; intro g1 v1 w1 ho1 hg1 hO1 hnil1; have HO1 := Lib.hid (And.intro ho1 (And.intro hO1 hg1)); clear hnil1 ho1 hO1 hg1))
  have hz1 := HO1.out.2.1.size
  simp only [World.size_alloc] at hz1
  have hg1 := HO1.out.2.2
  simp only [World.size_alloc] at hg1
  have hB1 : Below w.heap.size w w1 := below_only ((Below.refl _ _).alloc (Nat.le_refl _) _) (by simp) HO1.out.2.1 (by intro x hx e; omega)
  have hB2 : Below w.heap.size w w2 := app_below hB1 (by omega) hB1.size hO2
  have HOB := Lib.hid (And.intro ho2 hB2)
  have hg2w : w.heap.size ≤ g2 := by omega
  clear hB1 hB2 ho2 hO2 hg1 hg2
  go_loopw [3] (fun v3 wr => PadA w b v3 wr) (fun v3 _ => PadM b v3)
  case atStart => exact ⟨0, g2, _, c2, rfl, rfl, by omega, by simpa using HOB.out.1, hg2w, hl2, HOB.out.2⟩
  case round =>
    obtain ⟨k, g, m, c3, rfl, hmv, hk, hO, hg, hgl, hB⟩ := hrel
    have hz := padZ_lt b.length
    have HO := Lib.hid hO
    have HB := Lib.hid hB
    have HM := Lib.hid hmv
    have hm0 : 0 < m := by omega
    have hmb : m ≤ b.length + 64 := by omega
    have hsz := hB.size
    clear hO hB
    have hmi : (0 : Int) ≤ (m : Int) := by omega
    by_cases hkz : k < padZ b.length
    · have hne := padZ_not hkz
      have hne2 : ¬ ((m : Int) % 64 = 56) := by omega
      have hrep : b ++ [128] ++ List.replicate (k + 1) 0 = (b ++ [128] ++ List.replicate k 0) ++ [0] := by rw [List.replicate_succ', ← List.append_assoc]
      have HREP := Lib.hid hrep
      have hxl : (b ++ [128] ++ List.replicate k (0 : UInt8)).length = m := by simp; omega
      have HXL := Lib.hid hxl
      clear hmv hrep hxl
      go_wp2_with (at_builtin; refine wpList_append_byte rfl _ _ 38 rfl Tryz.underlying38 Tryz.info5 g _ (b ++ [128] ++ List.replicate k 0) rfl HO.out 0 0 rfl rfl (by rw [HXL.out]; omega) ?_; rw [HXL.out]; intro g4 c4 w4 ho4 hg4 hl4 hc4 hm4 hO4)
      refine ⟨⟨k + 1, g4, _, c4, rfl, by have := HM.out; omega, by omega, by rw [HREP.out]; exact ho4, by omega, hl4, app_below HB.out hg hsz hO4⟩, ?_⟩
      show b.length + 100 - (m + 1) < b.length + 100 - m
      omega
    · obtain rfl : k = padZ b.length := by omega
      have hend := padZ_end b.length
      have he2 : (m : Int) % 64 = 56 := by omega
      have hlb : (b.length : Int) ≤ 140737488355328 := by omega
      clear hmv hend
      go_wp2
      obtain ⟨X, hX⟩ : ∃ X, X = UInt64.ofNat (8 * b.length) := ⟨_, rfl⟩
      have hXn : X.toNat = 8 * b.length := by rw [hX, UInt64.toNat_ofNat', Nat.mod_eq_of_lt (by omega)]
      have hXD : Value.int .u64 (8 * (b.length : Int)) = D X := by unfold D; rw [hXn]; congr 1
      rw [hXD]
      have HX := Lib.hid hXn
      have cv := cvD8
      clear hX hXn hXD he2
      go_loopw [3, 5] (fun v3 v5 wr => PadB w b v3 v5 wr) (fun _ v5 _ => (intOf v5 + 1).toNat)
      case atStart => exact ⟨8, 7, g, m, c3, [], rfl, rfl, by omega, by omega, by have := HM.out; simp; omega, by simpa using HO.out, by simp, hg, hgl, HB.out⟩
      case round =>
        clear hgl hg hsz hm0 hmb hmi hkz hk
        obtain ⟨i, z, g, m, c, dn, rfl, rfl, hi, hz, hml, hO, hdn, hg, hgl, hB⟩ := hrel
        have hXL : (b ++ [128] ++ List.replicate (padZ b.length) (0 : UInt8)).length ≤ b.length + 64 := by simp; omega
        have hdl : dn.length + i = 8 := by
          have := congrArg List.length hdn
          rw [List.length_append, be_length, be_length] at this
          exact this
        have HO2 := Lib.hid (And.intro hO (And.intro hdn (And.intro hB hml)))
        have hm1 : m ≤ b.length + 100 := by rw [← hml, List.length_append]; omega
        have hszr := hB.size
        have HDL := Lib.hid hdl
        clear hO hdn hB hml hdl hXL
        by_cases h0 : i = 0
        · subst h0
          obtain rfl : z = -1 := by omega
          clear hz hi
          obtain ⟨c', hc'⟩ := And.intro HO2.out.1.form HDL.out
          obtain ⟨p5, c5, hv5, y1, y2, y3, y4, y5⟩ := HO2.out.1.form
          have e5 : c5 = c := by simp at hv5; exact hv5.2.2.symm
          subst e5
          have HV := Lib.hid (And.intro y1 (And.intro y2 hv5))
          clear hv5 y3 y4 y5 y1 y2
          clear c' hc'
          go_wp2
          go_ret
          have hd : dn = be (8 * b.length) 8 := by have := HO2.out.2.1; simpa [be] using this
          subst hd
          exact ⟨g, m, c5, rfl, HO2.out.2.2.2, HO2.out.1, hg, hgl, by rw [← HO2.out.2.2.2]; exact HV.out.1, HV.out.2.1, HO2.out.2.2.1⟩
        · obtain ⟨j, rfl⟩ : ∃ j, i = j + 1 := ⟨i - 1, by omega⟩
          obtain rfl : z = (j : Int) := by omega
          have hj0 : (0 : Int) ≤ (j : Int) := by omega
          have hj7 : (j : Int) ≤ 7 := by omega
          have hsh := fun w => D_shr (P := Tryz.prog) (w := w) (t := 35) X .i64 (8 * (j : Int)) (by omega)
          have ht8 : (8 * (j : Int)).toNat = 8 * j := by omega
          rw [ht8] at hsh
          clear hz
          go_wp2_with (at_builtin; refine wpList_append_byte rfl _ _ 38 rfl Tryz.underlying38 Tryz.info5 g _ (b ++ [128] ++ List.replicate (padZ b.length) 0 ++ dn) rfl HO2.out.1 _ (cut8 (shr64 X (8 * j))) rfl rfl (by rw [HO2.out.2.2.2]; omega) ?_; rw [HO2.out.2.2.2]; intro g4 c4 w4 ho4 hg4 hl4 hc4 hm4 hO4)
          have hbyte : cut8 (shr64 X (8 * j)) = UInt8.ofNat (8 * b.length / 256 ^ j) := by
            unfold cut8 shr64
            rw [HX.out, UInt64.toNat_ofNat', Nat.mod_eq_of_lt (Nat.lt_of_le_of_lt (Nat.div_le_self _ _) (by omega)), Nat.pow_mul]
          have hdn2 : (dn ++ [cut8 (shr64 X (8 * j))]) ++ be (8 * b.length) j = be (8 * b.length) 8 := by
            rw [hbyte, ← HO2.out.2.1, List.append_assoc]
            rfl
          refine ⟨⟨j, (j : Int) - 1, g4, m + 1, c4, dn ++ [cut8 (shr64 X (8 * j))], rfl, rfl, by omega, rfl, by rw [← List.append_assoc, List.length_append, HO2.out.2.2.2]; rfl, by rw [← List.append_assoc]; exact ho4, hdn2, by omega, hl4, app_below HO2.out.2.2.1 hg hszr hO4⟩, by simp [intOf]⟩
end Go.Proofs.YtolgaapiedbkfaaGreat
/-
  The contract of sha.spread. Condition: at least 64 bytes.
-/
namespace Go.Proofs.YtolgaapiedbkfaaGreat
open Go.RowKit Go.Kx
set_option linter.unusedVariables false
set_option linter.unusedSimpArgs false
attribute [local go_sem ↓] U_add U_mul U_xor U_or U_and U_not U_shl U_shr U_guard1 U_guard2 U_store exec_stU
attribute [local go_sem] st1_U st1_i

/-- An array of numbers of 32 bits in a block of its own. -/
def ArrU (w : World) (r t : Nat) (xs : List UInt32) : Prop := w.heap[r]? = some (.cells (xs.map U).toArray t (0, 0))
theorem ArrU.c {w : World} {r t : Nat} {xs : List UInt32} (h : ArrU w r t xs) (i : Nat) (hi : i < xs.length) : w.cell? ⟨r, i, none⟩ = some (U (xs[i]'hi)) := by
  unfold ArrU at h
  simp [World.cell?, h, hi]
theorem ArrU.fr {w : World} {r t : Nat} {xs : List UInt32} (h : ArrU w r t xs) (o : Nat) : w.frozen? ⟨r, o, none⟩ = false := by unfold ArrU at h; simp [World.frozen?, h]
theorem ArrU.lt {w : World} {r t : Nat} {xs : List UInt32} (h : ArrU w r t xs) : r < w.heap.size := (Array.getElem?_eq_some_iff.1 h).1
theorem ArrU.only {w w' : World} {q : Nat → Prop} {r t : Nat} {xs : List UInt32} (h : ArrU w r t xs) (ho : Only q w w') (hd : ¬ q r) : ArrU w' r t xs := (ho.block r h.lt hd).trans h
theorem ArrU.below {w w' : World} {r t : Nat} {xs : List UInt32} (h : ArrU w r t xs) (ho : Below w.heap.size w w') : ArrU w' r t xs := (ho.block r h.lt).trans h
theorem ArrU.new (w : World) (t : Nat) (xs : List UInt32) : ArrU (w.alloc (.cells (xs.map U).toArray t)) w.heap.size t xs := heap_alloc_new w _
theorem ArrU.set {w : World} {r t : Nat} {xs : List UInt32} (h : ArrU w r t xs) (i : Nat) (x : UInt32) : ArrU (w.setCell ⟨r, i, none⟩ (U x)) r t (xs.set i x) := by
  unfold ArrU at *
  simp [World.setCell, Array.getElem?_modify, h, List.map_set]

theorem arr_ones (xs : List UInt32) : ((xs.map U).toArray).all (fun v => v.oneCell') = true := by
  rw [Array.all_eq_true_iff_forall_mem]
  intro v hv
  simp only [List.mem_toArray, List.mem_map] at hv
  obtain ⟨x, _, rfl⟩ := hv
  rfl
theorem ArrU.setRow {w : World} {r t : Nat} {xs : List UInt32} (h : ArrU w r t xs) (ys : List UInt32) : ArrU (w.setRow r (ys.map U).toArray) r t ys := by
  unfold ArrU at *
  simp [World.setRow, Array.getElem?_modify, h]
theorem only_setRow (w : World) (r : Nat) (C : Array Value) : Only (· = r) w (w.setRow r C) :=
  ⟨rfl, rfl, rfl, by simp, fun k _ hk => by simp only [World.setRow, Array.getElem?_modify]; rw [if_neg (by omega)]⟩
/-- A whole array is read, is written. -/
theorem ld_arrU {P : Program} {ops : Array Oper} {rest : List Oper} {op : Oper} {a : Act} {w : World} {Q : Exit → Act → World → Prop} (hgd : op.guard = none) (ty : TypeId) (x : Operand) (ho : op.op = .load ty x)
    (g : Nat) (hx : a.eval x = .pointer (some ⟨g, 0, none⟩)) (t : TypeId) (xs : List UInt32) (hg : ArrU w g t xs) (n e : Nat) (hu : P.underlying ty = some (.array n e)) (hi : (P.info? ty).map (·.size) = some xs.length)
    (h : wpList P ops Q rest (a.put op.dst (.agg (xs.map U).toArray)) w) : wpList P ops Q (op :: rest) a w :=
  wpList_load_row hgd ty x ho g hx t _ (0, 0) (.array n e) hg hu rfl (by rw [hi]; simp) h
theorem st_arrU {P : Program} {ops : Array Oper} {rest : List Oper} {op : Oper} {a : Act} {w : World} {Q : Exit → Act → World → Prop} (hgd : op.guard = none) (ty : TypeId) (x y : Operand) (ho : op.op = .store ty x y)
    (g : Nat) (xs : List UInt32) (hx : a.eval x = .pointer (some ⟨g, 0, none⟩)) (hy : a.eval y = .agg (xs.map U).toArray) (t : TypeId) (old : List UInt32) (hg : ArrU w g t old) (hi : (P.info? ty).map (·.size) = some xs.length) (hl : old.length = xs.length)
    (h : ∀ w', ArrU w' g t xs → Only (· = g) w w' → wpList P ops Q rest (a.put op.dst undef) w') : wpList P ops Q (op :: rest) a w :=
  wpList_store_row hgd ty x y ho g _ hx hy t _ hg (by rw [hi]; simp) (by simpa using hl) (arr_ones xs) (h _ (hg.setRow xs) (only_setRow w g _))

/-- A byte is put into its word. -/
def put8 (b : List UInt8) (xs : List UInt32) (i : Nat) : List UInt32 := xs.set (i / 4) (shl32 (xs.getD (i / 4) 0) 8 ||| (b.getD i 0).toUInt32)
def words (b : List UInt8) : Nat → List UInt32
  | 0 => List.replicate 64 0
  | i + 1 => put8 b (words b i) i
theorem words_len (b : List UInt8) (i : Nat) : (words b i).length = 64 := by
  induction i with
  | zero => simp [words]
  | succ i ih => simp only [words, put8, List.length_set, ih]
/-- A word that follows. -/
def nextW (a b c d : UInt32) : UInt32 := a + b + (rotr c 7 ^^^ rotr c 18 ^^^ shr32 c 3) + (rotr d 17 ^^^ rotr d 19 ^^^ shr32 d 10)
def sch (xs : List UInt32) (i : Nat) : List UInt32 := xs.set i (nextW (xs.getD (i - 16) 0) (xs.getD (i - 7) 0) (xs.getD (i - 15) 0) (xs.getD (i - 2) 0))
def schedK (b : List UInt8) : Nat → List UInt32
  | 0 => words b 64
  | k + 1 => sch (schedK b k) (16 + k)
theorem schedK_len (b : List UInt8) (i : Nat) : (schedK b i).length = 64 := by
  induction i with
  | zero => exact words_len b 64
  | succ i ih => simp only [schedK, sch, List.length_set, ih]
def sched (b : List UInt8) : List UInt32 := schedK b 48

theorem cvB32 (x : UInt8) (w : World) : (convert 5 173 (.int .u8 (x.toNat : Int))).run Tryz.prog w = .ok (U x.toUInt32) w := by
  have hk : Tryz.prog.intKind 173 = .u32 := by kernel_rfl
  have h2 := run_convert_int (P := Tryz.prog) (w := w) 5 173 .u8 (x.toNat : Int) (by rw [Tryz.underlying5]; rfl) (by rw [hk]; exact Tryz.underlying173)
  have h : IntKind.u32.wrap (x.toNat : Int) = (x.toUInt32.toNat : Int) := by
    have h8 := x.toNat_lt
    rw [wrap_u32, UInt8.toNat_toUInt32, Nat.mod_eq_of_lt (by omega)]
  rw [hk, h] at h2
  exact h2

theorem rotr_k (x : UInt32) (k : Int) (n : Nat) (w : World) (hk : k = (n : Int)) (h : 1 ≤ n ∧ n ≤ 31) : Calls Tryz.prog 151 #[U x, .int .i64 k] w fun e w' => e = .returned (U (rotr x n)) ∧ w' = w := by
  subst hk
  exact (rotr_c x n w h).mono fun _ _ h => ⟨h.1, h.2.symm⟩
theorem below_drewN' {B : Nat} {a w : World} (h : Below B a w) (n : Nat) : Below B a (w.drewN n) := h.trans ⟨rfl, rfl, rfl, Nat.le_refl _, fun _ _ => rfl⟩
theorem Tryz.infoA64 : (Tryz.prog.info? 240).map (·.size) = some 64 := by kernel_rfl
def SpRel (w : World) (b : List UInt8) (v12 : Value) (wr : World) : Prop := ∃ i : Nat, v12 = .int .i64 (i : Int) ∧ i ≤ 64 ∧ ArrU wr (w.heap.size + 1) 240 (words b i) ∧ ArrU wr w.heap.size 240 (List.replicate 64 0) ∧ Below w.heap.size w wr
def SpRel2 (w : World) (b : List UInt8) (v6 : Value) (wr : World) : Prop := ∃ i : Nat, v6 = .int .i64 (16 + (i : Int)) ∧ i ≤ 48 ∧ ArrU wr (w.heap.size + 1) 240 (schedK b i) ∧ ArrU wr w.heap.size 240 (List.replicate 64 0) ∧ Below w.heap.size w wr
def SpR (w : World) (b : List UInt8) (e : Ending) (w' : World) : Prop := e = .returned (.agg ((sched b).map U).toArray) ∧ Below w.heap.size w w'

set_option maxHeartbeats 4000000 in
theorem spread_c (S : Nat → Prop) (p : Option Addr) (n c : Nat) (b : List UInt8) (w : World) (hR : Rd w S p b) (hn : b.length = n) (h64 : 64 ≤ n) (hc : n ≤ c) :
    Calls Tryz.prog 150 #[.slice p n c] w (SpR w b) := by
  subst hn
  have cv := cvB32
  obtain ⟨g, o, rfl, hS, hgl, hcell⟩ := hR.at (by omega)
  have HC := Lib.hid hcell
  clear hcell hR
  have hA : ∀ W, W = (w.alloc (.cells ((List.replicate 64 (0 : UInt32)).map U).toArray 240)).alloc (.cells ((List.replicate 64 (0 : UInt32)).map U).toArray 240) → SpRel w b (.int .i64 0) W := by
    rintro W rfl
    refine ⟨0, rfl, by omega, ?_, (ArrU.new w _ _).below ((Below.refl _ _).alloc (Nat.le_refl _) _), ((Below.refl _ _).alloc (Nat.le_refl _) _).alloc (by simp) _⟩
    have := ArrU.new (w.alloc (.cells ((List.replicate 64 (0 : UInt32)).map U).toArray 240)) 240 (List.replicate 64 0)
    simpa only [World.size_alloc, words] using this
  have HA := Lib.hid hA
  clear hA
  have hb64 : 64 ≤ (b.length : Int) := by omega
  go_enter Tryz.func150, Tryz.ntmps150
  go_wp2
  go_loopw [12] (fun v12 wr => SpRel w b v12 wr) (fun v12 _ => (64 - intOf v12).toNat)
  case atStart => exact HA.out _ rfl
  case round =>
    obtain ⟨i, rfl, hi, hA1, hA0, hB⟩ := hrel
    have HB := Lib.hid (And.intro hA1 (And.intro hA0 hB))
    by_cases hlt : i < 64
    · have hl := words_len b i
      have hq : i / 4 < 64 := by omega
      have c1 := hA1.c (i / 4) (by rw [hl]; exact hq)
      have f1 := hA1.fr (i / 4)
      have hgw : g < w.heap.size := hgl
      have hcb := (hB.cell (p := ⟨g, o + i, none⟩) hgl).trans (HC.out i (by omega))
      obtain ⟨B, hBd⟩ : ∃ B : UInt8, B = b[i]'(by omega) := ⟨_, rfl⟩
      rw [← hBd] at hcb
      obtain ⟨X, hX⟩ : ∃ X, X = (words b i)[i / 4]'(by rw [hl]; exact hq) := ⟨_, rfl⟩
      rw [← hX] at c1
      have hst : words b (i + 1) = (words b i).set (i / 4) (shl32 X 8 ||| B.toUInt32) := by
        show put8 b (words b i) i = _
        unfold put8
        rw [hX, hBd]
        simp only [List.getD_eq_getElem?_getD, List.getElem?_eq_getElem (by rw [hl]; exact hq : i / 4 < (words b i).length), List.getElem?_eq_getElem (by omega : i < b.length), Option.getD_some]
      have HST := Lib.hid hst
      have hti : ((i : Int) / 4).toNat = i / 4 := by omega
      have hlI : (i : Int) < 64 := by omega
      clear hst hBd hX hl hA1 hA0 hB
      go_wp2
      refine ⟨⟨i + 1, by simp, by omega, by rw [HST.out]; exact HB.out.1.set _ _, HB.out.2.1.only ((Only.refl (fun k => k = w.heap.size + 1) wr).setCell _ _ (.inl rfl)) (by omega), HB.out.2.2.setCell (by simp) _⟩, by simp [intOf]; omega⟩
    · have h64i : i = 64 := by omega
      have hge : ¬ (i : Int) < 64 := by omega
      rw [h64i] at hA1
      clear hlt hi h64i HB
      go_wp2
      clear hge
      clear HA
      go_loopw [6] (fun v6 wr => SpRel2 w b v6 wr) (fun v6 _ => (64 - intOf v6).toNat)
      case atStart => exact ⟨0, rfl, by omega, hA1, hA0, hB⟩
      case round =>
        clear hA1 hA0 hB
        obtain ⟨i, rfl, hi, hA1, hA0, hB⟩ := hrel
        have HB := Lib.hid (And.intro hA1 (And.intro hA0 hB))
        by_cases hlt : i < 48
        · have hl := schedK_len b i
          have c1 := hA1.c i (by omega)
          have c2 := hA1.c (i + 9) (by omega)
          have c3 := hA1.c (i + 1) (by omega)
          have c4 := hA1.c (i + 14) (by omega)
          have f1 := hA1.fr (16 + i)
          have c5 := hA1.c (16 + i) (by omega)
          obtain ⟨x1, h1⟩ : ∃ x, x = (schedK b i)[i]'(by omega) := ⟨_, rfl⟩
          obtain ⟨x2, h2⟩ : ∃ x, x = (schedK b i)[i + 9]'(by omega) := ⟨_, rfl⟩
          obtain ⟨x3, h3⟩ : ∃ x, x = (schedK b i)[i + 1]'(by omega) := ⟨_, rfl⟩
          obtain ⟨x4, h4⟩ : ∃ x, x = (schedK b i)[i + 14]'(by omega) := ⟨_, rfl⟩
          obtain ⟨x5, h5⟩ : ∃ x, x = (schedK b i)[16 + i]'(by omega) := ⟨_, rfl⟩
          rw [← h1] at c1
          rw [← h2] at c2
          rw [← h3] at c3
          rw [← h4] at c4
          rw [← h5] at c5
          have hst : schedK b (i + 1) = (schedK b i).set (16 + i) (nextW x1 x2 x3 x4) := by
            show sch (schedK b i) (16 + i) = _
            unfold sch
            rw [show 16 + i - 16 = i by omega, show 16 + i - 7 = i + 9 by omega, show 16 + i - 15 = i + 1 by omega, show 16 + i - 2 = i + 14 by omega, h1, h2, h3, h4]
            simp only [List.getD_eq_getElem?_getD, List.getElem?_eq_getElem (by omega : i < (schedK b i).length), List.getElem?_eq_getElem (by omega : i + 9 < (schedK b i).length), List.getElem?_eq_getElem (by omega : i + 1 < (schedK b i).length), List.getElem?_eq_getElem (by omega : i + 14 < (schedK b i).length), Option.getD_some]
          have HST := Lib.hid hst
          have hlI : 16 + (i : Int) < 64 := by omega
          have t1 : (16 + (i : Int) - 16).toNat = i := by omega
          have t2 : (16 + (i : Int) - 7).toNat = i + 9 := by omega
          have t3 : (16 + (i : Int) - 15).toNat = i + 1 := by omega
          have t4 : (16 + (i : Int) - 2).toNat = i + 14 := by omega
          have t5 : (16 + (i : Int)).toNat = 16 + i := by omega
          clear hst h1 h2 h3 h4 h5 hl hA1 hA0 hB
          go_upto_region 10 with (fail)
          go_quiet (fail)
          go_upto_region 11 with (fail)
          have s1 : IntKind.i64.wrap (16 + (i : Int) - 16) = (i : Int) := by rw [IntWalk.i64_in _ ⟨by omega, by omega⟩]; omega
          have s2 : IntKind.i64.wrap (16 + (i : Int) - 7) = (i : Int) + 9 := by rw [IntWalk.i64_in _ ⟨by omega, by omega⟩]; omega
          have b1 : (0 : Int) ≤ (i : Int) := by omega
          have b2 : (0 : Int) ≤ (i : Int) + 9 := by omega
          have b3 : (i : Int) < 64 := by omega
          have b4 : (i : Int) + 9 < 64 := by omega
          have b5 : ((i : Int) + 9).toNat = i + 9 := by omega
          have b6 : (0 : Int) ≤ 16 + (i : Int) := by omega
          have n1 : (⟨w.heap.size + 1, 16 + i, none⟩ : Addr) ≠ ⟨w.heap.size + 1, i, none⟩ := by intro h; injection h with _ h _; omega
          have n2 : (⟨w.heap.size + 1, 16 + i, none⟩ : Addr) ≠ ⟨w.heap.size + 1, i + 9, none⟩ := by intro h; injection h with _ h _; omega
          go_region_held3 (fun w' => w'.cell? ⟨w.heap.size + 1, i, none⟩ = some (U x1) ∧ w'.cell? ⟨w.heap.size + 1, i + 9, none⟩ = some (U x2)) (first | exact ⟨c1, c2⟩ | exact ⟨(World.cell?_setCell_other _ _ _ _ n1).trans c1, (World.cell?_setCell_other _ _ _ _ n2).trans c2⟩) ((go_at_call 151; (first | (with_reducible refine (rotr_k _ 7 7 _ rfl (by omega)).mono ?_) | (with_reducible refine (rotr_k _ 18 18 _ rfl (by omega)).mono ?_) | (with_reducible refine (rotr_k _ 17 17 _ rfl (by omega)).mono ?_) | (with_reducible refine (rotr_k _ 19 19 _ rfl (by omega)).mono ?_)); rintro e w' ⟨rfl, rfl⟩))
          all_goals go_wp2
          clear s1 s2
          refine ⟨⟨i + 1, by congr 1, by omega, ?_, ?_, ?_⟩, by simp [intOf]; omega⟩
          · rw [HST.out]
            exact (HB.out.1.only (Only.drewN _ (Only.refl (fun _ => False) _)) (fun h => h)).set _ _
          · exact HB.out.2.1.only ((Only.drewN _ (Only.refl (fun k => k = w.heap.size + 1) wr)).setCell _ _ (.inl rfl)) (by omega)
          · exact (below_drewN' HB.out.2.2 _).setCell (by simp) _
        · obtain rfl : i = 48 := by omega
          have hi2 : ¬ (16 : Int) + 48 < 64 := by omega
          go_upto_region 12 with (fail)
          go_wp2_with (first
            | (refine ld_arrU rfl 240 _ rfl _ rfl _ _ HB.out.1 _ _ Tryz.underlying240 (by rw [schedK_len]; exact Tryz.infoA64) ?_)
            | (refine st_arrU rfl 240 _ _ rfl w.heap.size (schedK b 48) rfl rfl _ _ HB.out.2.1 (by rw [schedK_len]; exact Tryz.infoA64) (by rw [schedK_len]; simp) ?_; intro w5 hA5 hO5))
          refine bodyPost_ret (v := .agg ((schedK b 48).map U).toArray) (results_cell_row (P := Tryz.prog) Tryz.results150 _ _ w.heap.size _ _ _ _ rfl hA5 Tryz.underlying240 rfl (by rw [Tryz.infoA64]; simp [schedK_len])) rfl (And.intro rfl ?_)
          exact below_only HB.out.2.2 HB.out.2.2.size hO5 (by intro k hk e; omega)
end Go.Proofs.YtolgaapiedbkfaaGreat
