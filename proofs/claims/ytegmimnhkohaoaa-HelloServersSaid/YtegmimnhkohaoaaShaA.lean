/-
  The contracts of sha.right, math/bits.RotateLeft32 and Mul64, and sha.root. Condition: a count from 1 to 31.
-/
import Derived.Test.YtegmimnhkohaoaaCurE
import Derived.Test.YtegmimnhkohaoaaW64
import Derived.Lib.Mul64
import Derived.Deep.CutBlock
import Derived.Deep.CutRange
namespace Go.Proofs.Ytegmimnhkohaoaa
open Go.RowKit Go.Kx
set_option linter.unusedVariables false
set_option linter.unusedSimpArgs false
attribute [local go_sem ↓] U_add U_mul U_xor U_or U_and U_not
attribute [local go_sem ↓] U_shl U_shr
attribute [local go_sem ↓] D_add D_mul D_xor D_or D_and D_not D_sub D_lss D_eql D_neq
attribute [local go_sem ↓] D_shl D_shr
attribute [local go_sem ↓] U_guard1 U_guard2 D_guard1 D_guard2

theorem and31 (n : Nat) (h : 1 ≤ n ∧ n ≤ 31) : bits .and .u64 (IntKind.u64.wrap (-(n : Int))) 31 = ((32 - n : Nat) : Int) := by
  obtain ⟨h1, h2⟩ := h
  have : n = 1 ∨ n = 2 ∨ n = 3 ∨ n = 4 ∨ n = 5 ∨ n = 6 ∨ n = 7 ∨ n = 8 ∨ n = 9 ∨ n = 10 ∨ n = 11 ∨ n = 12 ∨ n = 13 ∨ n = 14 ∨ n = 15 ∨ n = 16 ∨ n = 17 ∨ n = 18 ∨ n = 19 ∨ n = 20 ∨ n = 21 ∨ n = 22 ∨ n = 23 ∨ n = 24 ∨ n = 25 ∨ n = 26 ∨ n = 27 ∨ n = 28 ∨ n = 29 ∨ n = 30 ∨ n = 31 := by omega
  rcases this with h | h | h | h | h | h | h | h | h | h | h | h | h | h | h | h | h | h | h | h | h | h | h | h | h | h | h | h | h | h | h <;> subst h <;> rfl
theorem sub32 (n : Nat) (h : 1 ≤ n ∧ n ≤ 31) : IntKind.u64.wrap (32 - ((32 - n : Nat) : Int)) = (n : Int) := by
  obtain ⟨h1, h2⟩ := h
  have e : (32 - ((32 - n : Nat) : Int)) = (n : Int) := by omega
  rw [e]
  unfold IntKind.wrap
  simp [IntKind.bits, IntKind.signed]
  omega

theorem rotl_c (x : UInt32) (n : Nat) (w : World) (h : 1 ≤ n ∧ n ≤ 31) : Calls Try.prog 122 #[U x, .int .i64 (-(n : Int))] w fun e w' => e = .returned (U (rotr x n)) ∧ w = w' := by
  have h1 := and31 n h
  have h2 := sub32 n h
  go_enter Try.func122, Try.ntmps122
  go_wp2
  go_ret
  exact ⟨rfl, rfl⟩

theorem rotr_c (x : UInt32) (n : Nat) (w : World) (h : 1 ≤ n ∧ n ≤ 31) : Calls Try.prog 118 #[U x, .int .i64 (n : Int)] w fun e w' => e = .returned (U (rotr x n)) ∧ w = w' := by
  go_enter Try.func118, Try.ntmps118
  go_wp2_with (go_at_call 122; refine (rotl_c x n _ h).mono ?_; rintro e w' ⟨rfl, rfl⟩)
  go_ret
  exact ⟨rfl, rfl⟩

def mulhi (x y : UInt64) : UInt64 := UInt64.ofNat (x.toNat * y.toNat / 18446744073709551616)
theorem and_mask (x : UInt64) : (x &&& 4294967295).toNat = x.toNat % 4294967296 := by
  rw [UInt64.toNat_and]
  exact Nat.and_two_pow_sub_one_eq_mod x.toNat 32
theorem shr_half (x : UInt64) : (shr64 x 32).toNat = x.toNat / 4294967296 := by
  unfold shr64
  have h := x.toNat_lt
  rw [UInt64.toNat_ofNat', Nat.mod_eq_of_lt]
  omega
theorem mul64_eq (x y : UInt64) : shr64 x 32 * shr64 y 32 + shr64 (shr64 x 32 * (y &&& 4294967295) + shr64 ((x &&& 4294967295) * (y &&& 4294967295)) 32) 32 +
    shr64 ((shr64 x 32 * (y &&& 4294967295) + shr64 ((x &&& 4294967295) * (y &&& 4294967295)) 32 &&& 4294967295) + (x &&& 4294967295) * shr64 y 32) 32 = mulhi x y := by
  have hx : x.toNat < 18446744073709551616 := x.toNat_lt
  have hy : y.toNat < 18446744073709551616 := y.toNat_lt
  obtain ⟨bd, bt, bw, hhi⟩ := Lib.mul64_hi x.toNat y.toNat hx hy
  have ba := Lib.half_mul_le (a := x.toNat / 4294967296) (b := y.toNat / 4294967296) (by omega) (by omega)
  have bb := Lib.half_mul_le (a := x.toNat / 4294967296) (b := y.toNat % 4294967296) (by omega) (by omega)
  have bc := Lib.half_mul_le (a := x.toNat % 4294967296) (b := y.toNat / 4294967296) (by omega) (by omega)
  have e : ∀ n : Nat, 2 ^ 64 = 18446744073709551616 := fun _ => rfl
  apply UInt64.toNat_inj.1
  unfold mulhi
  simp only [UInt64.toNat_add, UInt64.toNat_mul, and_mask, shr_half, UInt64.toNat_ofNat', e 0]
  rw [← hhi]
  generalize x.toNat / 4294967296 * (y.toNat / 4294967296) = a at *
  generalize x.toNat / 4294967296 * (y.toNat % 4294967296) = b at *
  generalize x.toNat % 4294967296 * (y.toNat / 4294967296) = c at *
  generalize x.toNat % 4294967296 * (y.toNat % 4294967296) = d at *
  rw [Nat.mod_eq_of_lt bd, Nat.mod_eq_of_lt (by omega : b < 18446744073709551616), Nat.mod_eq_of_lt bt, Nat.mod_eq_of_lt (by omega : c < 18446744073709551616), Nat.mod_eq_of_lt bw, Nat.mod_eq_of_lt (by omega : a < 18446744073709551616), Nat.mod_eq_of_lt (by omega : a + (b + d / 4294967296) / 4294967296 < 18446744073709551616)]
theorem mul64_c (x y : UInt64) (w : World) : Calls Try.prog 121 #[D x, D y] w fun e w' => e = .returned (.tuple #[D (mulhi x y), D (x * y)]) ∧ w = w' := by
  have k1 : Value.int .u64 4294967295 = D 4294967295 := rfl
  have h := mul64_eq x y
  go_enter Try.func121, Try.ntmps121
  go_wp2
  go_ret2
  exact ⟨rfl, rfl⟩

/-! ### root -/
def rnext (r : UInt64) (b : Nat) : UInt64 := r ||| shl64 1 b
def rhigh (n : UInt64) (cube : Bool) : UInt64 := if cube then mulhi n n * n + mulhi (n * n) n else mulhi n n
def rlow (n : UInt64) (cube : Bool) : UInt64 := if cube then n * n * n else n * n
def rmost (p : UInt64) (cube : Bool) : UInt64 := if cube then shl64 p 32 else p
def rstep (p : UInt64) (cube : Bool) (r : UInt64) (b : Nat) : UInt64 :=
  if rhigh (rnext r b) cube < rmost p cube ∨ (rhigh (rnext r b) cube = rmost p cube ∧ rlow (rnext r b) cube = 0) then rnext r b else r
/-- The root behind so many steps. -/
def rootK (p : UInt64) (cube : Bool) : Nat → UInt64
  | 0 => 0
  | k + 1 => rstep p cube (rootK p cube k) (35 - k)
def rootU (p : UInt64) (cube : Bool) : UInt32 := UInt32.ofNat (rootK p cube 36).toNat

/-- What the build of a slice of one number comes to. -/
noncomputable def hidBs (t : TypeId) (v : Value) (w : World) : Result Next := (do let x ← Instr.buildSlice t 1 #[(0, v)]; pure (Next.value x) : Sem Next).run Try.prog w
noncomputable def bs1 (t e : TypeId) (k : IntKind) (v : Value) (w : World) : Result Next :=
  match v with
  | .int k' n => if k = k' then .ok (.value (.slice (some ⟨w.heap.size, 0, none⟩) 1 1)) (w.alloc (.cells #[v] e)) else hidBs t v w
  | _ => hidBs t v w
theorem bs1_D (t : TypeId) (x : UInt64) (w : World) : bs1 t 49 .u64 (D x) w = .ok (.value (.slice (some ⟨w.heap.size, 0, none⟩) 1 1)) (w.alloc (.cells #[D x] 49)) := rfl
theorem bs1_U (t : TypeId) (x : UInt32) (w : World) : bs1 t 142 .u32 (U x) w = .ok (.value (.slice (some ⟨w.heap.size, 0, none⟩) 1 1)) (w.alloc (.cells #[U x] 142)) := rfl
theorem bsrun_D (k : Int) (w : World) : (Instr.buildSlice 151 1 #[(0, .int .u64 k)]).run Try.prog w = .ok (.slice (some ⟨w.heap.size, 0, none⟩) 1 1) (w.alloc (.cells #[.int .u64 k] 49)) := by kernel_rfl
theorem bsrun_U (k : Int) (w : World) : (Instr.buildSlice 144 1 #[(0, .int .u32 k)]).run Try.prog w = .ok (.slice (some ⟨w.heap.size, 0, none⟩) 1 1) (w.alloc (.cells #[.int .u32 k] 142)) := by kernel_rfl
theorem exec_bsD (dst : Option Tmp) (x : Operand) (ty : TypeId) (pos : String) (after : Array Edge) (gd : Option (Nat × Bool)) (ρ : Operand → Value) (w : World) :
    (execOp ρ ⟨dst, .buildSlice 151 1 #[(0, x)], ty, pos, after, gd⟩).run Try.prog w = bs1 151 49 .u64 (ρ x) w := by
  have h0 : (execOp ρ ⟨dst, .buildSlice 151 1 #[(0, x)], ty, pos, after, gd⟩).run Try.prog w = hidBs 151 (ρ x) w := by kernel_rfl
  rw [h0]
  generalize ρ x = v
  unfold bs1
  split
  · split
    · rename_i h; subst h; unfold hidBs; rw [Sem.run_bind, bsrun_D]; rfl
    · rfl
  · rfl
theorem exec_bsU (dst : Option Tmp) (x : Operand) (ty : TypeId) (pos : String) (after : Array Edge) (gd : Option (Nat × Bool)) (ρ : Operand → Value) (w : World) :
    (execOp ρ ⟨dst, .buildSlice 144 1 #[(0, x)], ty, pos, after, gd⟩).run Try.prog w = bs1 144 142 .u32 (ρ x) w := by
  have h0 : (execOp ρ ⟨dst, .buildSlice 144 1 #[(0, x)], ty, pos, after, gd⟩).run Try.prog w = hidBs 144 (ρ x) w := by kernel_rfl
  rw [h0]
  generalize ρ x = v
  unfold bs1
  split
  · split
    · rename_i h; subst h; unfold hidBs; rw [Sem.run_bind, bsrun_U]; rfl
    · rfl
  · rfl
/-- What a store of one number comes to. -/
noncomputable def hidSt (t : TypeId) (a v : Value) (w : World) : Result Next := (do Instr.storeAt t a v; pure Next.skip : Sem Next).run Try.prog w
noncomputable def st1 (t : TypeId) (a v : Value) (w : World) : Result Next :=
  match a with
  | .pointer (some ad) => if v.oneCell' = true then (stored Try.prog w ad v .plain).andThen (fun _ w' => .ok .skip w') else hidSt t a v w
  | _ => hidSt t a v w
theorem st1_D (t : TypeId) (ad : Addr) (x : UInt64) (w : World) : st1 t (.pointer (some ad)) (D x) w = (stored Try.prog w ad (D x) .plain).andThen (fun _ w' => .ok .skip w') := rfl
theorem st1_i (t : TypeId) (ad : Addr) (k : IntKind) (n : Int) (w : World) : st1 t (.pointer (some ad)) (.int k n) w = (stored Try.prog w ad (.int k n) .plain).andThen (fun _ w' => .ok .skip w') := rfl
theorem st1_U (t : TypeId) (ad : Addr) (x : UInt32) (w : World) : st1 t (.pointer (some ad)) (U x) w = (stored Try.prog w ad (U x) .plain).andThen (fun _ w' => .ok .skip w') := rfl
theorem cells_one {v : Value} (h : v.oneCell' = true) : v.cells = #[v] := by cases v <;> first | rfl | (simp [Value.oneCell'] at h)
theorem hidSt_one (t : TypeId) (i : TypeInfo) (hi : Try.prog.info? t = some i) (hs : i.size = 1) (ad : Addr) (v : Value) (h : v.oneCell' = true) (w : World) :
    hidSt t (.pointer (some ad)) v w = (stored Try.prog w ad v .plain).andThen (fun _ w' => .ok .skip w') := by
  have h1 : (Instr.storeAt t (.pointer (some ad)) v).run Try.prog w = stored Try.prog w ad v .plain := by
    have ha : ad.add 0 = ad := by simp [Addr.add]
    have h2 := run_store Try.prog w ad v .plain h
    simp only [Instr.storeAt, Instr.sureAddr, Sem.run_bind, Sem.run_pure, Result.andThen_ok]
    simp [storeVar, sizeOf, typeInfo, hi, hs, cells_one h, storeCells, ha]
    rw [h2]
    rfl
  unfold hidSt
  rw [Sem.run_bind, h1]
  rfl
theorem exec_st (t : TypeId) (hi : (Try.prog.info? t).map (fun i => i.size) = some 1) (dst : Option Tmp) (x y : Operand) (ty : TypeId) (pos : String) (after : Array Edge) (gd : Option (Nat × Bool)) (ρ : Operand → Value) (w : World) :
    (execOp ρ ⟨dst, .store t x y, ty, pos, after, gd⟩).run Try.prog w = st1 t (ρ x) (ρ y) w := by
  have h0 : (execOp ρ ⟨dst, .store t x y, ty, pos, after, gd⟩).run Try.prog w = hidSt t (ρ x) (ρ y) w := rfl
  rw [h0]
  generalize ρ x = a
  generalize ρ y = v
  unfold st1
  obtain ⟨i, hi1, hi2⟩ : ∃ i, Try.prog.info? t = some i ∧ i.size = 1 := by
    simpa using hi
  split
  · split
    · rename_i h; exact hidSt_one t i hi1 hi2 _ _ h w
    · rfl
  · rfl
theorem exec_stD (dst : Option Tmp) (x y : Operand) (ty : TypeId) (pos : String) (after : Array Edge) (gd : Option (Nat × Bool)) (ρ : Operand → Value) (w : World) :
    (execOp ρ ⟨dst, .store 49 x y, ty, pos, after, gd⟩).run Try.prog w = st1 49 (ρ x) (ρ y) w := exec_st _ (by kernel_rfl) _ _ _ _ _ _ _ _ _
theorem exec_stU (dst : Option Tmp) (x y : Operand) (ty : TypeId) (pos : String) (after : Array Edge) (gd : Option (Nat × Bool)) (ρ : Operand → Value) (w : World) :
    (execOp ρ ⟨dst, .store 142 x y, ty, pos, after, gd⟩).run Try.prog w = st1 142 (ρ x) (ρ y) w := exec_st _ (by kernel_rfl) _ _ _ _ _ _ _ _ _
theorem cvD (x : UInt64) (w : World) : (convert 49 142 (D x)).run Try.prog w = .ok (U (UInt32.ofNat x.toNat)) w := by
  have h : IntKind.u32.wrap (x.toNat : Int) = ((UInt32.ofNat x.toNat).toNat : Int) := by rw [wrap_u32, UInt32.toNat_ofNat']
  have hk : Try.prog.intKind 142 = .u32 := by kernel_rfl
  have h2 := run_convert_int (P := Try.prog) (w := w) 49 142 .u64 (x.toNat : Int) (by rw [Try.underlying49]; rfl) (by rw [hk]; exact Try.underlying142)
  rw [hk, h] at h2
  exact h2

theorem root_c (p : UInt64) (cube : Bool) (w : World) : Calls Try.prog 116 #[D p, .bool cube] w fun e w' => e = .returned (U (rootU p cube)) ∧ w = w' := by
  have k1 : Value.int .u64 1 = D 1 := rfl
  have k0 : Value.int .u64 0 = D 0 := rfl
  have cv := cvD
  go_enter Try.func116, Try.ntmps116
  go_wp2
  go_loop [5, 6] (fun v5 v6 => ∃ k : Nat, k ≤ 36 ∧ v6 = .int .i64 (35 - (k : Int)) ∧ v5 = D (rootK p cube k)) (fun _ v6 => (intOf v6 + 1).toNat)
  case atStart => exact ⟨0, by omega, rfl, rfl⟩
  case round =>
    obtain ⟨k, hk, rfl, rfl⟩ := hrel
    by_cases hlt : k < 36
    · obtain ⟨b, hb⟩ : ∃ b : Nat, b = 35 - k := ⟨_, rfl⟩
      have e1 : (35 - (k : Int)) = (b : Int) := by omega
      have hs : rootK p cube (k + 1) = rstep p cube (rootK p cube k) b := by rw [hb]; rfl
      have HS := Lib.hid (And.intro hs hb)
      clear hs hb
      rw [e1]
      clear e1
      have hb0 : (0 : Int) ≤ (b : Int) := by omega
      have hb1 : (b : Int) ≤ 35 := by have := HS.out.2; omega
      obtain ⟨R, hR⟩ : ∃ R, R = rootK p cube k := ⟨_, rfl⟩
      rw [← hR] at HS ⊢
      obtain ⟨N, hN'⟩ : ∃ N, N = R ||| shl64 1 b := ⟨_, rfl⟩
      have hN : rnext R b = N := hN'.symm
      have hN2 := hN'.symm
      clear hN' hR
      cases cube
      ·
        by_cases c1 : rhigh N false < rmost p false
        · have hr : rstep p false R b = N := by unfold rstep; rw [hN, if_pos (.inl c1)]
          have HR := Lib.hid hr
          clear hr
          simp only [rhigh, rlow, rmost, if_true, if_false, Bool.false_eq_true] at c1
          go_wp2_with (go_at_call 121; refine (mul64_c _ _ _).mono ?_; rintro e w' ⟨rfl, rfl⟩)
          exact ⟨⟨k + 1, by omega, by congr 1; have := HS.out.2; omega, by rw [HS.out.1, HR.out]⟩, by simp [intOf]⟩
        · by_cases c2 : rhigh N false = rmost p false
          · by_cases c3 : rlow N false = 0
            · have hr : rstep p false R b = N := by unfold rstep; rw [hN, if_pos (.inr ⟨c2, c3⟩)]
              have HR := Lib.hid hr
              clear hr
              simp only [rhigh, rlow, rmost, if_true, if_false, Bool.false_eq_true] at c1 c2 c3
              go_wp2_with (go_at_call 121; refine (mul64_c _ _ _).mono ?_; rintro e w' ⟨rfl, rfl⟩)
              exact ⟨⟨k + 1, by omega, by congr 1; have := HS.out.2; omega, by rw [HS.out.1, HR.out]⟩, by simp [intOf]⟩
            · have hr : rstep p false R b = R := by unfold rstep; rw [hN, if_neg (fun h => h.elim c1 (fun h => c3 h.2))]
              have HR := Lib.hid hr
              clear hr
              simp only [rhigh, rlow, rmost, if_true, if_false, Bool.false_eq_true] at c1 c2 c3
              go_wp2_with (go_at_call 121; refine (mul64_c _ _ _).mono ?_; rintro e w' ⟨rfl, rfl⟩)
              exact ⟨⟨k + 1, by omega, by congr 1; have := HS.out.2; omega, by rw [HS.out.1, HR.out]⟩, by simp [intOf]⟩
          · have hr : rstep p false R b = R := by unfold rstep; rw [hN, if_neg (fun h => h.elim c1 (fun h => c2 h.1))]
            have HR := Lib.hid hr
            clear hr
            simp only [rhigh, rlow, rmost, if_true, if_false, Bool.false_eq_true] at c1 c2
            go_wp2_with (go_at_call 121; refine (mul64_c _ _ _).mono ?_; rintro e w' ⟨rfl, rfl⟩)
            exact ⟨⟨k + 1, by omega, by congr 1; have := HS.out.2; omega, by rw [HS.out.1, HR.out]⟩, by simp [intOf]⟩
      ·
        by_cases c1 : rhigh N true < rmost p true
        · have hr : rstep p true R b = N := by unfold rstep; rw [hN, if_pos (.inl c1)]
          have HR := Lib.hid hr
          clear hr
          simp only [rhigh, rlow, rmost, if_true, if_false, Bool.false_eq_true] at c1
          go_wp2_with (go_at_call 121; refine (mul64_c _ _ _).mono ?_; rintro e w' ⟨rfl, rfl⟩)
          exact ⟨⟨k + 1, by omega, by congr 1; have := HS.out.2; omega, by rw [HS.out.1, HR.out]⟩, by simp [intOf]⟩
        · by_cases c2 : rhigh N true = rmost p true
          · by_cases c3 : rlow N true = 0
            · have hr : rstep p true R b = N := by unfold rstep; rw [hN, if_pos (.inr ⟨c2, c3⟩)]
              have HR := Lib.hid hr
              clear hr
              simp only [rhigh, rlow, rmost, if_true, if_false, Bool.false_eq_true] at c1 c2 c3
              go_wp2_with (go_at_call 121; refine (mul64_c _ _ _).mono ?_; rintro e w' ⟨rfl, rfl⟩)
              exact ⟨⟨k + 1, by omega, by congr 1; have := HS.out.2; omega, by rw [HS.out.1, HR.out]⟩, by simp [intOf]⟩
            · have hr : rstep p true R b = R := by unfold rstep; rw [hN, if_neg (fun h => h.elim c1 (fun h => c3 h.2))]
              have HR := Lib.hid hr
              clear hr
              simp only [rhigh, rlow, rmost, if_true, if_false, Bool.false_eq_true] at c1 c2 c3
              go_wp2_with (go_at_call 121; refine (mul64_c _ _ _).mono ?_; rintro e w' ⟨rfl, rfl⟩)
              exact ⟨⟨k + 1, by omega, by congr 1; have := HS.out.2; omega, by rw [HS.out.1, HR.out]⟩, by simp [intOf]⟩
          · have hr : rstep p true R b = R := by unfold rstep; rw [hN, if_neg (fun h => h.elim c1 (fun h => c2 h.1))]
            have HR := Lib.hid hr
            clear hr
            simp only [rhigh, rlow, rmost, if_true, if_false, Bool.false_eq_true] at c1 c2
            go_wp2_with (go_at_call 121; refine (mul64_c _ _ _).mono ?_; rintro e w' ⟨rfl, rfl⟩)
            exact ⟨⟨k + 1, by omega, by congr 1; have := HS.out.2; omega, by rw [HS.out.1, HR.out]⟩, by simp [intOf]⟩
    · have hk6 : k = 36 := by omega
      subst hk6
      go_wp2
      go_ret
      exact ⟨rfl, rfl⟩
end Go.Proofs.Ytegmimnhkohaoaa
