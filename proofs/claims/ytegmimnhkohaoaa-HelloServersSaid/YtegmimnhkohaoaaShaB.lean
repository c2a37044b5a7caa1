/-
  The contracts of sha.primes and sha.roots, and of slices.IndexFunc and ContainsFunc as primes calls them. Condition: at most 64 of them.
-/
import Derived.Test.YtegmimnhkohaoaaShaA
namespace Go.Proofs.Ytegmimnhkohaoaa
open Go.RowKit Go.Kx
set_option linter.unusedVariables false
set_option linter.unusedSimpArgs false
attribute [local go_sem ↓] U_add U_mul U_xor U_or U_and U_not U_shl U_shr U_guard1 U_guard2
attribute [local go_sem ↓] D_add D_mul D_xor D_or D_and D_not D_sub D_lss D_eql D_neq D_shl D_shr D_guard1 D_guard2 D_store U_store exec_bsD exec_bsU
attribute [local go_sem ↓] exec_stD exec_stU
attribute [local go_sem] bs1_D bs1_U st1_D st1_U st1_i

/-- A variable of one cell. -/
def Var (w : World) (b t : Nat) (v : Value) : Prop := w.heap[b]? = some (.cells #[v] t (0, 0))
theorem Var.c {w : World} {b t : Nat} {v : Value} (h : Var w b t v) : w.cell? ⟨b, 0, none⟩ = some v := by unfold Var at h; simp [World.cell?, h]
theorem Var.fr {w : World} {b t : Nat} {v : Value} (h : Var w b t v) : w.frozen? ⟨b, 0, none⟩ = false := by unfold Var at h; simp [World.frozen?, h]
theorem Var.lt {w : World} {b t : Nat} {v : Value} (h : Var w b t v) : b < w.heap.size := (Array.getElem?_eq_some_iff.1 h).1
theorem Var.only {w w' : World} {q : Nat → Prop} {b t : Nat} {v : Value} (h : Var w b t v) (ho : Only q w w') (hd : ¬ q b) : Var w' b t v := (ho.block b h.lt hd).trans h
theorem Var.below {w w' : World} {b t : Nat} {v : Value} (h : Var w b t v) (ho : Below w.heap.size w w') : Var w' b t v := (ho.block b h.lt).trans h
theorem Var.new (w : World) (t : Nat) (v : Value) : Var (w.alloc (.cells #[v] t)) w.heap.size t v := heap_alloc_new w _

theorem divides_c (q p : UInt64) (B : Nat) (w : World) (hq : q ≠ 0) (hc : w.cell? ⟨B, 0, none⟩ = some (D p)) :
    Calls Try.prog 120 #[D q, .pointer (some ⟨B, 0, none⟩)] w fun e w' => e = .returned (.bool (decide (p % q = 0))) ∧ w = w' := by
  have hr := fun (w : World) => D_rem (P := Try.prog) (w := w) (t := 49) p q hq
  have k0 : Value.int .u64 0 = D 0 := rfl
  go_enter Try.func120, Try.ntmps120
  go_wp2
  go_ret
  exact ⟨rfl, rfl⟩

/-- Numbers that lie in a row. -/
def NumsAt (w : World) (p : Option Addr) (qs : List UInt64) : Prop := ∀ i (h : i < qs.length), ∃ g o, p = some ⟨g, o, none⟩ ∧ w.cell? ⟨g, o + i, none⟩ = some (D qs[i])

def IdxR (w : World) (qs : List UInt64) (p : UInt64) (e : Ending) (w' : World) : Prop := ∃ r : Int, e = .returned (.int .i64 r) ∧ decide (0 ≤ r) = qs.any (fun q => decide (p % q = 0)) ∧ w = w'

theorem index_c (a : Option Addr) (n c : Nat) (qs : List UInt64) (p : UInt64) (B : Nat) (w : World) (hN : NumsAt w a qs) (hl : qs.length = n) (hm : n ≤ 1000) (h0 : ∀ q ∈ qs, q ≠ 0) (hc : w.cell? ⟨B, 0, none⟩ = some (D p)) :
    Calls Try.prog 123 #[.slice a n c, .func (.func 120) #[] #[.pointer (some ⟨B, 0, none⟩)]] w (IdxR w qs p) := by
  subst hl
  go_enter Try.func123, Try.ntmps123
  go_wp2
  go_loop [8] (fun v8 => ∃ i : Nat, v8 = .int .i64 (i : Int) ∧ i ≤ qs.length ∧ (qs.take i).any (fun q => decide (p % q = 0)) = false) (fun v8 => qs.length - (intOf v8).toNat)
  case atStart => exact ⟨0, rfl, by omega, rfl⟩
  case round =>
    obtain ⟨i, rfl, hi, hany⟩ := hrel
    have HA := Lib.hid hany
    clear hany
    by_cases hlt : i < qs.length
    · obtain ⟨g, o, rfl, hcell⟩ := hN i hlt
      have hlI : (i : Int) < (qs.length : Int) := by omega
      have hq0 : qs[i] ≠ 0 := h0 _ (List.getElem_mem hlt)
      have hts : qs.take (i + 1) = qs.take i ++ [qs[i]] := List.take_succ_eq_append_getElem hlt
      have HT := Lib.hid hts
      obtain ⟨q, hq⟩ : ∃ q, q = qs[i] := ⟨_, rfl⟩
      rw [← hq] at hcell hq0
      have HQ := Lib.hid hq
      clear hts hq
      have HD := Lib.hid h0
      clear h0 hN
      by_cases hd : p % q = 0
      · have hb : decide (p % q = 0) = true := decide_eq_true hd
        go_wp2_with (go_at_call 120; refine (divides_c q p B _ hq0 hc).mono ?_; rintro e w' ⟨rfl, rfl⟩)
        go_ret
        refine ⟨(i : Int), rfl, ?_, rfl⟩
        have hmem : q ∈ qs := by rw [HQ.out]; exact List.getElem_mem hlt
        rw [decide_eq_true (by omega : (0 : Int) ≤ (i : Int))]
        exact (List.any_eq_true.2 ⟨q, hmem, hb⟩).symm
      · have hb : decide (p % q = 0) = false := decide_eq_false hd
        go_wp2_with (go_at_call 120; refine (divides_c q p B _ hq0 hc).mono ?_; rintro e w' ⟨rfl, rfl⟩)
        exact ⟨⟨i + 1, by simp, by omega, by rw [HT.out, List.any_append, HA.out, ← HQ.out]; simp [hd]⟩, by simp [intOf]; omega⟩
    · have hlI : ¬ (i : Int) < (qs.length : Int) := by omega
      go_wp2
      go_ret
      have : qs.take i = qs := List.take_of_length_le (by omega)
      exact ⟨-1, rfl, by rw [← this, HA.out]; rfl, rfl⟩

theorem contains_c (a : Option Addr) (n c : Nat) (qs : List UInt64) (p : UInt64) (B : Nat) (w : World) (hN : NumsAt w a qs) (hl : qs.length = n) (hm : n ≤ 1000) (h0 : ∀ q ∈ qs, q ≠ 0) (hc : w.cell? ⟨B, 0, none⟩ = some (D p)) :
    Calls Try.prog 119 #[.slice a n c, .func (.func 120) #[] #[.pointer (some ⟨B, 0, none⟩)]] w (fun e w' => e = .returned (.bool (qs.any (fun q => decide (p % q = 0)))) ∧ w = w') := by
  obtain ⟨bb, hbb⟩ : ∃ bb, bb = qs.any (fun q => decide (p % q = 0)) := ⟨_, rfl⟩
  rw [← hbb]
  have HB := Lib.hid hbb
  clear hbb
  have H := Lib.hid (index_c a n c qs p B w hN hl hm h0 hc)
  clear hN hl hm h0 hc
  go_enter Try.func119, Try.ntmps119
  go_wp2_with (go_at_call 123; refine H.out.mono ?_; rintro e w' ⟨r, rfl, hr, rfl⟩; rw [← HB.out] at hr)
  go_ret
  exact ⟨by first | rfl | (rw [← hr]), rfl⟩

/-! ### primes -/
/-- The primes from 2 on, of so many numbers. -/
def pr : Nat → List UInt64
  | 0 => []
  | k + 1 => if (pr k).any (fun q => decide (UInt64.ofNat (k + 2) % q = 0)) then pr k else pr k ++ [UInt64.ofNat (k + 2)]
theorem pr_succ (k : Nat) : pr (k + 1) = if (pr k).any (fun q => decide (UInt64.ofNat (k + 2) % q = 0)) then pr k else pr k ++ [UInt64.ofNat (k + 2)] := rfl
theorem pr_prefix (k j : Nat) : ∃ t, pr (k + j) = pr k ++ t := by
  induction j with
  | zero => exact ⟨[], by simp⟩
  | succ j ih =>
    obtain ⟨t, ht⟩ := ih
    rw [show k + (j + 1) = (k + j) + 1 by omega, pr_succ]
    split
    · exact ⟨t, ht⟩
    · exact ⟨t ++ [_], by rw [ht, List.append_assoc]⟩
theorem pr_len : (pr 310).length = 64 := by decide +kernel
/-- The first so many. -/
def primesL (n : Nat) : List UInt64 := (pr 310).take n
theorem pr_take {k n : Nat} (hk : k ≤ 310) (h : (pr k).length = n) : pr k = primesL n := by
  obtain ⟨t, ht⟩ := pr_prefix k (310 - k)
  rw [show k + (310 - k) = 310 by omega] at ht
  unfold primesL
  rw [ht, ← h, List.take_left']
  rfl
theorem pr_bound {k n : Nat} (hn : n ≤ 64) (h : (pr k).length < n) : k < 310 := by
  apply Nat.lt_of_not_le
  intro hk
  obtain ⟨t, ht⟩ := pr_prefix 310 (k - 310)
  rw [show 310 + (k - 310) = k by omega] at ht
  rw [ht, List.length_append, pr_len] at h
  omega
theorem pr_ne (k : Nat) (hk : k ≤ 1000) : ∀ q ∈ pr k, q ≠ 0 := by
  induction k with
  | zero => intro q hq; cases hq
  | succ k ih =>
    intro q hq
    rw [pr_succ] at hq
    split at hq
    · exact ih (by omega) q hq
    · rw [List.mem_append, List.mem_singleton] at hq
      rcases hq with hq | rfl
      · exact ih (by omega) q hq
      · intro h
        have := congrArg UInt64.toNat h
        rw [UInt64.toNat_ofNat', Nat.mod_eq_of_lt (by omega)] at this
        simp at this

theorem Try.infoD : (Try.prog.info? 49).map (fun i => (i.zero, i.size, i.bytes)) = some (some (.int .u64 0), 1, 8) := by kernel_rfl
theorem Try.infoU : (Try.prog.info? 142).map (fun i => (i.zero, i.size, i.bytes)) = some (some (.int .u32 0), 1, 4) := by kernel_rfl

/-- A row of numbers of the call's own. -/
def RowD (w : World) (g : Nat) (v : Value) (l : List UInt64) : Prop := Row w 49 1 g v l.length (l.map D)
def RowU (w : World) (g : Nat) (v : Value) (l : List UInt32) : Prop := Row w 142 1 g v l.length (l.map U)
theorem RowD.nums {w : World} {g : Nat} {p : Option Addr} {n c : Nat} {l : List UInt64} (h : RowD w g (.slice p n c) l) : l.length = n ∧ NumsAt w p l ∧ (0 < n → g < w.heap.size) := by
  obtain ⟨p', c', hv, h1, h2⟩ := Row.form h
  cases hv
  refine ⟨rfl, fun i hi => ?_, fun h => (h1 h).2⟩
  obtain ⟨rfl, _⟩ := h1 (by omega)
  exact ⟨g, 0, rfl, by rw [Nat.zero_add]; exact h2 i (D l[i]) (by simp [hi])⟩

def PrRel (w : World) (n : Nat) (v3 v4 : Value) (wr : World) : Prop := ∃ k g b, v4 = .pointer (some ⟨b, 0, none⟩) ∧ (pr k).length ≤ n ∧ k ≤ 310 ∧ Var wr b 49 (D (UInt64.ofNat (k + 2))) ∧ RowD wr g v3 (pr k) ∧ g ≠ b ∧ w.heap.size ≤ g ∧ w.heap.size ≤ b ∧ Below w.heap.size w wr
def PrMeas (v3 v4 : Value) (wr : World) : Nat := match v4 with
  | .pointer (some ⟨b, 0, none⟩) => match wr.cell? ⟨b, 0, none⟩ with
    | some (.int .u64 n) => 400 - n.toNat
    | _ => 0
  | _ => 0
theorem PrMeas_at {v3 : Value} {b k : Nat} {wr : World} (hk : k ≤ 310) (h : Var wr b 49 (D (UInt64.ofNat (k + 2)))) : PrMeas v3 (.pointer (some ⟨b, 0, none⟩)) wr = 398 - k := by
  have e : UInt64.toNat (UInt64.ofNat (k + 2)) = k + 2 := by rw [UInt64.toNat_ofNat', Nat.mod_eq_of_lt (by omega)]
  unfold PrMeas
  simp only [h.c, D, e]
  omega

def PrR (w : World) (n : Nat) (e : Ending) (w' : World) : Prop := ∃ g p c, e = .returned (.slice p n c) ∧ RowD w' g (.slice p n c) (primesL n) ∧ w.heap.size ≤ g ∧ Below w.heap.size w w'

set_option maxHeartbeats 2000000 in
theorem primes_c (n : Nat) (w : World) (hn : 1 ≤ n ∧ n ≤ 64) : Calls Try.prog 115 #[.int .i64 (n : Int)] w (PrR w n) := by
  have k1 : Value.int .u64 1 = D 1 := rfl
  go_enter Try.func115, Try.ntmps115
  go_wp2
  go_loopw [3, 4] (fun v3 v4 wr => PrRel w n v3 v4 wr) (fun v3 v4 wr => PrMeas v3 v4 wr)
  case atStart =>
    exact ⟨0, w.heap.size + 1, w.heap.size, rfl, by simp [pr], by omega, Var.new _ _ _, Row.nil _ _ _ _, by omega, by omega, by omega, (Below.refl _ _).alloc (Nat.le_refl _) _⟩
  case round =>
    obtain ⟨k, g, b, rfl, hl, hk, hV, hO, hgb, hg, hb, hB⟩ := hrel
    have hM := PrMeas_at (v3 := u3) hk hV
    obtain ⟨p3, c3, rfl, hf1, hf2⟩ := Row.form hO
    obtain ⟨hN1, hN2, hN3⟩ := hO.nums
    obtain ⟨P, hP⟩ : ∃ P, P = UInt64.ofNat (k + 2) := ⟨_, rfl⟩
    have hP1 : UInt64.ofNat (k + 1 + 2) = P + 1 := by
      apply UInt64.toNat_inj.1
      rw [hP, UInt64.toNat_add, UInt64.toNat_ofNat', UInt64.toNat_ofNat']
      show _ = ((k + 2) % 2 ^ 64 + 1) % 2 ^ 64
      omega
    rw [← hP] at hV
    obtain ⟨L, hL⟩ : ∃ L, L = (pr k).length := ⟨_, rfl⟩
    rw [← hL] at hl hM hO hN3 hf1 ⊢
    have hN1' := hN1
    have HP := Lib.hid (And.intro hP (And.intro hP1 hL))
    have hR : Row wr 49 1 g (.slice p3 L c3) L ((pr k).map D) := by have h := hO; unfold RowD at h; rw [← hL] at h; exact h
    have HR := Lib.hid hR
    have HH := Lib.hid (And.intro hV (And.intro hO (And.intro hB (And.intro hM hN2))))
    have cb := hV.c
    have hbl := hV.lt
    have hne := pr_ne k (by omega)
    have HNE := Lib.hid hne
    have hsz := hB.size
    have hL1 : L ≤ 1000 := by omega
    clear hP hP1 hV hO hB hM hf1 hf2 hN2 hne hN1 hL hR
    by_cases hlt : L < n
    · have hlI : (L : Int) < (n : Int) := by omega
      have hk2 : k < 310 := pr_bound hn.2 (by rw [← HP.out.2.2]; exact hlt)
      have cont := fun (w' : World) (hc : w'.cell? ⟨b, 0, none⟩ = some (D P)) (hN : NumsAt w' p3 (pr k)) => contains_c p3 L c3 (pr k) P b w' hN HP.out.2.2.symm hL1 HNE.out hc
      have CT := Lib.hid cont
      clear cont
      obtain ⟨bb, hbb⟩ : ∃ bb, bb = (pr k).any (fun q => decide (P % q = 0)) := ⟨_, rfl⟩
      rw [← hbb] at CT
      have HBB := Lib.hid hbb
      clear hbb
      cases bb
      · go_wp2_with (first
          | (go_at_call 119; refine (CT.out _ cb HH.out.2.2.2.2).mono ?_; rintro e w' ⟨rfl, rfl⟩)
          | (at_builtin; refine wpList_append_row rfl _ _ 151 rfl 49 (.int .u64 0) 1 8 Try.underlying151 Try.infoD rfl (by decide) g (.slice p3 L c3) L ((pr k).map D) rfl (Row.only HR.out ((Only.refl (fun _ => False) wr).alloc _) (fun h => h)) ⟨wr.heap.size, 0, none⟩ 1 1 [D P] rfl rfl (cell_one wr _ _) (by simp [Value.oneCell', D]) (by unfold maxLen; omega) (by omega) (wr.heap.size + 1) (by simp) ?_; intro g' v' w1 hrow hg' hO1; have hV1 : Var w1 b 49 (D P) := (HH.out.1.below ((Below.refl _ _).alloc (Nat.le_refl _) (.cells #[D P] 49))).only hO1 (by omega); have cb1 := hV1.c))
        have hs1 := hO1.size
        simp only [World.size_alloc] at hs1
        have hpr : pr (k + 1) = pr k ++ [P] := by rw [pr_succ, ← HP.out.1, ← HBB.out]; rfl
        obtain ⟨q, c', hv', z1, z2⟩ := Row.form hrow
        have hgl := (z1 (by omega)).2
        have hB1 : Below w.heap.size w w1 := below_only (HH.out.2.2.1.alloc hsz _) (by simp; omega) hO1 (by intro x hx e; omega)
        have hVn := Var.new w1 49 (D (UInt64.ofNat (k + 1 + 2)))
        have hm1 := PrMeas_at (v3 := v') (by omega) hVn
        rw [HP.out.2.1] at hVn hm1
        refine ⟨⟨k + 1, g', w1.heap.size, rfl, by rw [hpr, List.length_append, ← HP.out.2.2]; exact hlt, by omega, by rw [HP.out.2.1]; exact hVn, ?_, by omega, by omega, by omega, hB1.alloc hB1.size _⟩, by rw [hm1, HH.out.2.2.2.1]; omega⟩
        unfold RowD
        rw [hpr, List.length_append, List.map_append, ← HP.out.2.2]
        exact Row.only hrow ((Only.refl (fun _ => False) w1).alloc _) (fun h => h)
      · go_wp2_with (go_at_call 119; refine (CT.out _ cb HH.out.2.2.2.2).mono ?_; rintro e w' ⟨rfl, rfl⟩)
        have hpr : pr (k + 1) = pr k := by rw [pr_succ, ← HP.out.1, ← HBB.out]; rfl
        have hVn := Var.new wr 49 (D (UInt64.ofNat (k + 1 + 2)))
        have hm1 := PrMeas_at (v3 := .slice p3 L c3) (by omega) hVn
        rw [HP.out.2.1] at hVn hm1
        by_cases hL0 : 0 < L
        · refine ⟨⟨k + 1, g, wr.heap.size, rfl, by rw [hpr, ← HP.out.2.2]; exact hl, by omega, by rw [HP.out.2.1]; exact hVn, ?_, by have := hN3 hL0; omega, by omega, by omega, HH.out.2.2.1.alloc hsz _⟩, by rw [hm1, HH.out.2.2.2.1]; omega⟩
          rw [hpr]
          exact Row.only HH.out.2.1 ((Only.refl (fun _ => False) wr).alloc _) (fun h => h)
        · exfalso
          have h0 : pr k = [] := List.eq_nil_of_length_eq_zero (by rw [← HP.out.2.2]; omega)
          have := HBB.out
          rw [h0] at this
          cases this
    · have hlI : ¬ (L : Int) < (n : Int) := by omega
      obtain rfl : L = n := by omega
      go_wp2
      go_ret
      exact ⟨g, p3, c3, rfl, by rw [← pr_take hk HP.out.2.2.symm]; exact HH.out.2.1, hg, HH.out.2.2.1⟩

/-! ### roots -/
def rootsL (n : Nat) (cube : Bool) : List UInt32 := (primesL n).map fun p => rootU p cube
theorem primesL_len {n : Nat} (h : n ≤ 64) : (primesL n).length = n := by unfold primesL; rw [List.length_take, pr_len]; omega
theorem NumsAt.below {w w' : World} {p : Option Addr} {qs : List UInt64} (h : NumsAt w p qs) (hb : Below w.heap.size w w') : NumsAt w' p qs := by
  intro i hi
  obtain ⟨g, o, h1, h2⟩ := h i hi
  exact ⟨g, o, h1, (hb.cell (p := ⟨g, o + i, none⟩) (World.block_lt_of_cell? _ _ h2)).trans h2⟩
def RoRel (w1 : World) (n : Nat) (cube : Bool) (v5 v11 : Value) (wr : World) : Prop := ∃ (i g : Nat), v11 = .int .i64 (i : Int) ∧ i ≤ n ∧ Row wr 142 1 g v5 i (((rootsL n cube).take i).map U) ∧ w1.heap.size ≤ g ∧ Below w1.heap.size w1 wr
def RoR (w : World) (n : Nat) (cube : Bool) (e : Ending) (w' : World) : Prop := ∃ g c, e = .returned (.slice (some ⟨g, 0, none⟩) n c) ∧ Row w' 142 1 g (.slice (some ⟨g, 0, none⟩) n c) n ((rootsL n cube).map U) ∧ w.heap.size ≤ g ∧ g < w'.heap.size ∧ Below w.heap.size w w'

set_option maxHeartbeats 2000000 in
theorem roots_c (n : Nat) (cube : Bool) (w : World) (hn : 1 ≤ n ∧ n ≤ 64) : Calls Try.prog 106 #[.int .i64 (n : Int), .bool cube] w (RoR w n cube) := by
  have hpl := primesL_len hn.2
  have HPL := Lib.hid hpl
  have HRL := Lib.hid (show (rootsL n cube).length = n by unfold rootsL; rw [List.length_map]; exact hpl)
  clear hpl
  go_enter Try.func106, Try.ntmps106
  go_wp2_with (go_at_call 115; refine (primes_c n _ hn).mono ?_; rintro e w1 ⟨g0, p0, c0, rfl, hrow, hg0, hB⟩; have HN := Lib.hid hrow.nums.2.1; have HB := Lib.hid hB; clear hrow hB)
  go_loopw [5, 11] (fun v5 v11 wr => RoRel w1 n cube v5 v11 wr) (fun _ v11 _ => n - (intOf v11).toNat)
  case atStart => exact ⟨0, w1.heap.size, rfl, by omega, Row.nil _ _ _ _, by omega, Below.refl _ _⟩
  case round =>
    obtain ⟨i, g, rfl, hi, hO, hg, hB1⟩ := hrel
    have HO := Lib.hid hO
    have HB1 := Lib.hid hB1
    clear hO hB1
    by_cases hlt : i < n
    · have hlI : (i : Int) < (n : Int) := by omega
      have hip : i < (primesL n).length := by rw [HPL.out]; exact hlt
      obtain ⟨gq, oq, rfl, hcell⟩ := (HN.out.below HB1.out) i hip
      have htk : (rootsL n cube).take (i + 1) = (rootsL n cube).take i ++ [rootU ((primesL n)[i]'hip) cube] := by
        have hir : i < (rootsL n cube).length := by rw [HRL.out]; exact hlt
        rw [List.take_succ_eq_append_getElem hir]
        simp [rootsL]
      obtain ⟨P, hP⟩ : ∃ P, P = (primesL n)[i]'hip := ⟨_, rfl⟩
      rw [← hP] at htk hcell
      have HT := Lib.hid htk
      clear htk hP hip
      go_wp2_with (first
        | (go_at_call 116; refine (root_c P cube _).mono ?_; rintro e w' ⟨rfl, rfl⟩)
        | (at_builtin; refine wpList_append_row rfl _ _ 144 rfl 142 (.int .u32 0) 1 4 Try.underlying144 Try.infoU rfl (by decide) g _ i (((rootsL n cube).take i).map U) rfl (Row.only HO.out ((Only.refl (fun _ => False) wr).alloc _) (fun h => h)) ⟨wr.heap.size, 0, none⟩ 1 1 [U (rootU P cube)] rfl rfl (cell_one wr _ _) (by simp [Value.oneCell', U]) (by unfold maxLen; omega) (by omega) (wr.heap.size + 1) (by simp) ?_; intro g' v' w2 hrow hg' hO1))
      have hs1 := hO1.size
      have hsz := HB1.out.size
      simp only [World.size_alloc] at hs1
      refine ⟨⟨i + 1, g', by simp, by omega, by rw [HT.out, List.map_append]; exact hrow, by omega, below_only (HB1.out.alloc hsz _) (by simp; omega) hO1 (by intro x hx e; omega)⟩, by simp [intOf]; omega⟩
    · have hlI : ¬ (i : Int) < (n : Int) := by omega
      obtain rfl : i = n := by omega
      obtain ⟨q, c', hv', z1, z2⟩ := Row.form HO.out
      obtain ⟨rfl, hgl⟩ := z1 (by omega)
      subst hv'
      go_wp2
      go_ret
      refine ⟨g, c', rfl, ?_, by have := HB.out.size; omega, hgl, HB.out.trans (HB1.out.mono HB.out.size)⟩
      have ht : (rootsL i cube).take i = rootsL i cube := List.take_of_length_le (by rw [HRL.out]; omega)
      have h := HO.out
      rw [ht] at h
      exact h
end Go.Proofs.Ytegmimnhkohaoaa
