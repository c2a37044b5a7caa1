/-
  The contract of sha.padded. Condition: at most 2 to the 47th bytes, less two thousand.
-/
import Derived.Test.YtegmimnhkohaoaaShaB
import Derived.Test.YtegmimnhkohaoaaStr
import Derived.Test.YtegmimnhkohaoaaAppB
namespace Go.Proofs.Ytegmimnhkohaoaa
open Go.RowKit Go.Kx
set_option linter.unusedVariables false
set_option linter.unusedSimpArgs false
attribute [local go_sem ↓] D_add D_mul D_or D_and D_sub D_shl

/-- So many noughts are put behind. -/
def padZ (L : Nat) : Nat := (119 - L % 64) % 64
def padL (b : List UInt8) : List UInt8 := (b ++ [128]) ++ List.replicate (padZ b.length) 0 ++ be (8 * b.length) 8
theorem padZ_end (L : Nat) : (L + 1 + padZ L) % 64 = 56 := by unfold padZ; omega
theorem padZ_not {L k : Nat} (h : k < padZ L) : (L + 1 + k) % 64 ≠ 56 := by unfold padZ at h; omega
theorem padZ_lt (L : Nat) : padZ L < 64 := by unfold padZ; omega
theorem padL_len (b : List UInt8) : (padL b).length % 64 = 0 ∧ (padL b).length ≤ b.length + 73 := by
  have h1 := padZ_end b.length
  have h2 := padZ_lt b.length
  unfold padL
  simp only [List.length_append, List.length_replicate, be_length, List.length_cons, List.length_nil]
  omega

def PadR (w : World) (X : List UInt8) (e : Ending) (w' : World) : Prop := ∃ g n c, e = .returned (.slice (some ⟨g, 0, none⟩) n c) ∧ X.length = n ∧ Own w' g (.slice (some ⟨g, 0, none⟩) n c) X ∧ w.heap.size ≤ g ∧ g < w'.heap.size ∧ n ≤ c ∧ c ≤ maxLen ∧ Below w.heap.size w w'

def PadA (w : World) (b : List UInt8) (v3 : Value) (wr : World) : Prop := ∃ (k g m c : Nat), v3 = .slice (some ⟨g, 0, none⟩) m c ∧ m = b.length + 1 + k ∧ k ≤ padZ b.length ∧ Own wr g (.slice (some ⟨g, 0, none⟩) m c) ((b ++ [128]) ++ List.replicate k 0) ∧ w.heap.size ≤ g ∧ g < wr.heap.size ∧ Below w.heap.size w wr
def PadM (b : List UInt8) (v3 : Value) : Nat := match v3 with
  | .slice _ n _ => b.length + 100 - n
  | _ => 0

/-- The lowest byte. -/
def cut8 (x : UInt64) : UInt8 := UInt8.ofNat x.toNat
theorem cvD8 (x : UInt64) (w : World) : (convert 49 5 (D x)).run Try.prog w = .ok (.int .u8 ((cut8 x).toNat : Int)) w := by
  unfold cut8
  have hk : Try.prog.intKind 5 = .u8 := by kernel_rfl
  have h2 := run_convert_int (P := Try.prog) (w := w) 49 5 .u64 (x.toNat : Int) (by rw [Try.underlying49]; rfl) (by rw [hk]; exact Try.underlying5)
  have h : IntKind.u8.wrap (x.toNat : Int) = ((UInt8.ofNat x.toNat).toNat : Int) := by
    rw [UInt8.toNat_ofNat']
    unfold IntKind.wrap
    simp [IntKind.bits, IntKind.signed]
  rw [hk, h] at h2
  exact h2
def PadB (w : World) (b : List UInt8) (v3 v5 : Value) (wr : World) : Prop := ∃ (i : Nat) (z : Int) (g m c : Nat) (dn : List UInt8), v3 = .slice (some ⟨g, 0, none⟩) m c ∧ v5 = .int .i64 z ∧ i ≤ 8 ∧ z = (i : Int) - 1 ∧ ((b ++ [128]) ++ List.replicate (padZ b.length) 0 ++ dn).length = m ∧
  Own wr g (.slice (some ⟨g, 0, none⟩) m c) ((b ++ [128]) ++ List.replicate (padZ b.length) 0 ++ dn) ∧ dn ++ be (8 * b.length) i = be (8 * b.length) 8 ∧ w.heap.size ≤ g ∧ g < wr.heap.size ∧ Below w.heap.size w wr

set_option maxHeartbeats 4000000 in
set_option maxRecDepth 10000 in
theorem padded_c (S : Nat → Prop) (p : Option Addr) (n c : Nat) (b : List UInt8) (w : World) (hR : Rd w S p b) (hp : p = none → c = 0) (hl : b.length + 2000 ≤ 140737488355328) (hn : b.length = n) :
    Calls Try.prog 107 #[.slice p n c] w (PadR w (padL b)) := by
  subst hn
  have HR := Lib.hid (And.intro hR hp)
  clear hR hp
  go_enter Try.func107, Try.ntmps107
  go_wp2_with (first
    | (at_builtin; have hq := HO1.out.1; refine wpList_append_byte rfl _ _ 23 rfl Try.underlying23 Try.info5 g1 v1 b rfl hq 128 128 rfl rfl (by omega) ?_; intro g2 c2 w2 ho2 hg2 hl2 hc2 hm2 hO2; clear hq)
    | (at_builtin; refine wpList_append_bytes _ rfl _ _ 23 rfl Try.underlying23 Try.info5 w.heap.size _ [] rfl (Own.new w) S _ _ _ b rfl rfl HR.out.2 (HR.out.1.below ((Below.refl _ _).alloc (Nat.le_refl _) (.cells #[] 5))) (by simp; omega) ?_; intro g1 v1 w1 ho1 hg1 hO1 hnil1; have HO1 := Lib.hid (And.intro ho1 (And.intro hO1 hg1)); clear hnil1 ho1 hO1 hg1))
  have hz1 := HO1.out.2.1.size
  simp only [World.size_alloc] at hz1
  have hg1 := HO1.out.2.2
  simp only [World.size_alloc] at hg1
  have hB1 : Below w.heap.size w w1 := below_only ((Below.refl _ _).alloc (Nat.le_refl _) _) (by simp) HO1.out.2.1 (by intro x hx e; omega)
  have hB2 : Below w.heap.size w w2 := app_below hB1 (by omega) hB1.size hO2
  have HOB := Lib.hid (And.intro ho2 hB2)
  have hg2w : w.heap.size ≤ g2 := by omega
  clear hB1 hB2 ho2 hO2 hg1 hg2
  go_loopw [3] (fun v3 wr => PadA w b v3 wr) (fun v3 _ => PadM b v3)
  case atStart => exact ⟨0, g2, _, c2, rfl, rfl, by omega, by simpa using HOB.out.1, hg2w, hl2, HOB.out.2⟩
  case round =>
    obtain ⟨k, g, m, c3, rfl, hmv, hk, hO, hg, hgl, hB⟩ := hrel
    have hz := padZ_lt b.length
    have HO := Lib.hid hO
    have HB := Lib.hid hB
    have HM := Lib.hid hmv
    have hm0 : 0 < m := by omega
    have hmb : m ≤ b.length + 64 := by omega
    have hsz := hB.size
    clear hO hB
    have hmi : (0 : Int) ≤ (m : Int) := by omega
    by_cases hkz : k < padZ b.length
    · have hne := padZ_not hkz
      have hne2 : ¬ ((m : Int) % 64 = 56) := by omega
      have hrep : b ++ [128] ++ List.replicate (k + 1) 0 = (b ++ [128] ++ List.replicate k 0) ++ [0] := by rw [List.replicate_succ', ← List.append_assoc]
      have HREP := Lib.hid hrep
      have hxl : (b ++ [128] ++ List.replicate k (0 : UInt8)).length = m := by simp; omega
      have HXL := Lib.hid hxl
      clear hmv hrep hxl
      go_wp2_with (at_builtin; refine wpList_append_byte rfl _ _ 23 rfl Try.underlying23 Try.info5 g _ (b ++ [128] ++ List.replicate k 0) rfl HO.out 0 0 rfl rfl (by rw [HXL.out]; omega) ?_; rw [HXL.out]; intro g4 c4 w4 ho4 hg4 hl4 hc4 hm4 hO4)
      refine ⟨⟨k + 1, g4, _, c4, rfl, by have := HM.out; omega, by omega, by rw [HREP.out]; exact ho4, by omega, hl4, app_below HB.out hg hsz hO4⟩, ?_⟩
      show b.length + 100 - (m + 1) < b.length + 100 - m
      omega
    · obtain rfl : k = padZ b.length := by omega
      have hend := padZ_end b.length
      have he2 : (m : Int) % 64 = 56 := by omega
      have hlb : (b.length : Int) ≤ 140737488355328 := by omega
      clear hmv hend
      go_wp2
      obtain ⟨X, hX⟩ : ∃ X, X = UInt64.ofNat (8 * b.length) := ⟨_, rfl⟩
      have hXn : X.toNat = 8 * b.length := by rw [hX, UInt64.toNat_ofNat', Nat.mod_eq_of_lt (by omega)]
      have hXD : Value.int .u64 (8 * (b.length : Int)) = D X := by unfold D; rw [hXn]; congr 1
      rw [hXD]
      have HX := Lib.hid hXn
      have cv := cvD8
      clear hX hXn hXD he2
      go_loopw [3, 5] (fun v3 v5 wr => PadB w b v3 v5 wr) (fun _ v5 _ => (intOf v5 + 1).toNat)
      case atStart => exact ⟨8, 7, g, m, c3, [], rfl, rfl, by omega, by omega, by have := HM.out; simp; omega, by simpa using HO.out, by simp, hg, hgl, HB.out⟩
      case round =>
        clear hgl hg hsz hm0 hmb hmi hkz hk
        obtain ⟨i, z, g, m, c, dn, rfl, rfl, hi, hz, hml, hO, hdn, hg, hgl, hB⟩ := hrel
        have hXL : (b ++ [128] ++ List.replicate (padZ b.length) (0 : UInt8)).length ≤ b.length + 64 := by simp; omega
        have hdl : dn.length + i = 8 := by
          have := congrArg List.length hdn
          rw [List.length_append, be_length, be_length] at this
          exact this
        have HO2 := Lib.hid (And.intro hO (And.intro hdn (And.intro hB hml)))
        have hm1 : m ≤ b.length + 100 := by rw [← hml, List.length_append]; omega
        have hszr := hB.size
        have HDL := Lib.hid hdl
        clear hO hdn hB hml hdl hXL
        by_cases h0 : i = 0
        · subst h0
          obtain rfl : z = -1 := by omega
          clear hz hi
          obtain ⟨c', hc'⟩ := And.intro HO2.out.1.form HDL.out
          obtain ⟨p5, c5, hv5, y1, y2, y3, y4, y5⟩ := HO2.out.1.form
          have e5 : c5 = c := by simp at hv5; exact hv5.2.2.symm
          subst e5
          have HV := Lib.hid (And.intro y1 (And.intro y2 hv5))
          clear hv5 y3 y4 y5 y1 y2
          clear c' hc'
          go_wp2
          go_ret
          have hd : dn = be (8 * b.length) 8 := by have := HO2.out.2.1; simpa [be] using this
          subst hd
          exact ⟨g, m, c5, rfl, HO2.out.2.2.2, HO2.out.1, hg, hgl, by rw [← HO2.out.2.2.2]; exact HV.out.1, HV.out.2.1, HO2.out.2.2.1⟩
        · obtain ⟨j, rfl⟩ : ∃ j, i = j + 1 := ⟨i - 1, by omega⟩
          obtain rfl : z = (j : Int) := by omega
          have hj0 : (0 : Int) ≤ (j : Int) := by omega
          have hj7 : (j : Int) ≤ 7 := by omega
          have hsh := fun w => D_shr (P := Try.prog) (w := w) (t := 49) X .i64 (8 * (j : Int)) (by omega)
          have ht8 : (8 * (j : Int)).toNat = 8 * j := by omega
          rw [ht8] at hsh
          clear hz
          go_wp2_with (at_builtin; refine wpList_append_byte rfl _ _ 23 rfl Try.underlying23 Try.info5 g _ (b ++ [128] ++ List.replicate (padZ b.length) 0 ++ dn) rfl HO2.out.1 _ (cut8 (shr64 X (8 * j))) rfl rfl (by rw [HO2.out.2.2.2]; omega) ?_; rw [HO2.out.2.2.2]; intro g4 c4 w4 ho4 hg4 hl4 hc4 hm4 hO4)
          have hbyte : cut8 (shr64 X (8 * j)) = UInt8.ofNat (8 * b.length / 256 ^ j) := by
            unfold cut8 shr64
            rw [HX.out, UInt64.toNat_ofNat', Nat.mod_eq_of_lt (Nat.lt_of_le_of_lt (Nat.div_le_self _ _) (by omega)), Nat.pow_mul]
          have hdn2 : (dn ++ [cut8 (shr64 X (8 * j))]) ++ be (8 * b.length) j = be (8 * b.length) 8 := by
            rw [hbyte, ← HO2.out.2.1, List.append_assoc]
            rfl
          refine ⟨⟨j, (j : Int) - 1, g4, m + 1, c4, dn ++ [cut8 (shr64 X (8 * j))], rfl, rfl, by omega, rfl, by rw [← List.append_assoc, List.length_append, HO2.out.2.2.2]; rfl, by rw [← List.append_assoc]; exact ho4, hdn2, by omega, hl4, app_below HO2.out.2.2.1 hg hszr hO4⟩, by simp [intOf]⟩
end Go.Proofs.Ytegmimnhkohaoaa
