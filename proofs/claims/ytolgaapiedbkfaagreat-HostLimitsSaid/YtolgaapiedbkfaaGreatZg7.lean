/-
  The contract of disk's New. Condition: one sector at least and no more than 512.
-/
import Derived.Test.YtolgaapiedbkfaaGreatZDisA
import Derived.Laws.MakeOwn
import Derived.Test.YtolgaapiedbkfaaGreatZg6
import Derived.Deep.AppendSrc
import Derived.Laws.Append
import Derived.Lib.SlBytesConst
import Derived.ArgAppend
namespace Go.Proofs.YtolgaapiedbkfaaGreat
open Go.RowKit Go.Kx
set_option linter.unusedVariables false
set_option linter.unusedSimpArgs false
set_option maxRecDepth 100000
theorem Tryz.infoSec : (Tryz.prog.info? 142).map (fun i => (i.zero.map (·.cells), i.size, i.bytes)) = some (some (Array.replicate 64 (.int .u8 0)), 64, 64) := by kernel_rfl
theorem made_sec (m : Nat) : madeCells (Array.replicate 64 (.int .u8 0)) m = ((List.replicate m (0 : UInt8)).map B8).toArray := by
  apply Array.ext
  · simp [size_madeCells]
  · intro i h1 h2
    have h64 : i % 64 < 64 := by omega
    simp [madeCells, h64]
theorem run_disk (n : Nat) (h1 : 1 ≤ n) (h : n ≤ 512) (w : World) : (Instr.makeSlice 45 (.int .i64 (n : Int)) (.int .i64 (n : Int))).run Tryz.prog w = .ok (.slice (some ⟨w.heap.size, 0, none⟩) n n) (w.alloc (.cells ((List.replicate (64 * n) (0 : UInt8)).map B8).toArray 142)) := by
  have hI := Tryz.infoSec
  cases hq : Tryz.prog.info? 142 with
  | none => rw [hq] at hI; cases hI
  | some i =>
    rw [hq] at hI
    simp only [Option.map_some, Option.some.injEq, Prod.mk.injEq] at hI
    obtain ⟨hz, hs, hb⟩ := hI
    cases hz' : i.zero with
    | none => rw [hz'] at hz; cases hz
    | some z =>
      rw [hz'] at hz
      simp only [Option.map_some, Option.some.injEq] at hz
      have hr := run_make (P := Tryz.prog) w 45 142 i z Tryz.underlying45 hq hz' .i64 .i64 n n (by omega) (Int.le_refl _) (by rw [hb]; omega) (by omega)
      rw [hz, hs, made_sec] at hr
      simp only [Int.toNat_natCast] at hr
      rw [Nat.mul_comm n 64] at hr
      exact hr
/-- What New tells. -/
def DnR (w : World) (n : Nat) (e : Ending) (w' : World) : Prop := ∃ r g, e = .returned (.tuple #[rp r, .int .i64 0]) ∧ DiskI w' r g n 0 (List.replicate (64 * n) 0) ∧ w.heap.size ≤ r ∧ w.heap.size ≤ g ∧ Below w.heap.size w w'
set_option maxHeartbeats 4000000 in
theorem dNew_c (n : Nat) (w : World) (h1 : 1 ≤ n) (h : n ≤ 512) : Calls Tryz.prog 4 #[.int .i64 (n : Int)] w (DnR w n) := by
  have hmk := run_disk n h1 h
  have k1 : ¬ ((n : Int) < 1) := by omega
  have k2 : ¬ ((512 : Int) < (n : Int)) := by omega
  generalize hz : ((List.replicate (64 * n) (0 : UInt8)).map B8).toArray = Z at *
  go_enter Tryz.func4, Tryz.ntmps4
  go_wp2
  go_ret2
  have a1 : ArrB (w.alloc (.cells Z 142)) w.heap.size 142 (List.replicate (64 * n) 0) := by rw [← hz]; exact ArrB.new _ _ _
  have a2 := Blk.new (w.alloc (.cells Z 142)) 47 (diV w.heap.size n 0)
  rw [World.size_alloc] at a2
  exact ⟨w.heap.size + 1, w.heap.size, rfl, ⟨a2, a1.below ((Below.refl _ _).alloc (Nat.le_refl _) _), by simp, by omega, ⟨h1, h⟩⟩, by omega, Nat.le_refl _, ((Below.refl _ w).alloc (Nat.le_refl _) _).alloc (by simp) _⟩
end Go.Proofs.YtolgaapiedbkfaaGreat
/-
  The contracts of journal's big, number, Need, size and first. Conditions: those that each theorem states.
-/
namespace Go.Kx
open Go.Proofs.YtolgaapiedbkfaaGreat
def bgK (x : UInt64) : Nat → List UInt8
  | 0 => []
  | k + 1 => cut8 (shr64 x (8 * k)) :: bgK x k
theorem bgK_len (x : UInt64) : ∀ k, (bgK x k).length = k
  | 0 => rfl
  | k + 1 => by rw [bgK, List.length_cons, bgK_len x k]
def nuF (b : List UInt8) : UInt64 := b.foldl (fun n c => shl64 n 8 ||| c.toUInt64) 0
def needF (n : Nat) : Nat := (n + 81) / 64
end Go.Kx
namespace Go.Proofs.YtolgaapiedbkfaaGreat
open Go.RowKit Go.Kx
set_option linter.unusedVariables false
set_option linter.unusedSimpArgs false
set_option maxRecDepth 100000
attribute [local go_sem ↓] D_add D_mul D_xor D_or D_and D_not D_sub D_lss D_eql D_neq
attribute [local go_sem ↓] D_guard1 D_guard2
attribute [local go_sem ↓] exec_stD
attribute [local go_sem] D_cells D_one D_store st1_D st1_i
attribute [local go_sem ↓] D_shl D_shr
def BgRel (B : Nat) (w : World) (l : List UInt8) (x : UInt64) (s : Nat) (v v7 : Value) (wr : World) : Prop := ∃ p n c dn, ∃ k : Nat, v = .slice p n c ∧ v7 = .int .i64 ((k : Int) - 1) ∧ k ≤ s ∧ OB wr p n c (l ++ dn) ∧ dn ++ bgK x k = bgK x s ∧ (∀ j, owB p n c j → B ≤ j) ∧ Below B w wr
theorem big_c (B : Nat) (p : Option Addr) (n c : Nat) (l : List UInt8) (x : UInt64) (s : Nat) (w : World) (h : OB w p n c l) (hx : ∀ k, owB p n c k → B ≤ k) (hB : B ≤ w.heap.size) (hs : s ≤ 8) (hl : l.length ≤ 4000000) :
    Calls Tryz.prog 70 #[.slice p n c, D x, .int .i64 (s : Int)] w (GrowOB B w (l ++ bgK x s)) := by
  have h0 : BgRel B w l x s (.slice p n c) (.int .i64 ((s : Int) - 1)) w := ⟨p, n, c, [], s, rfl, rfl, by omega, by simpa using h, by simp, hx, Below.refl _ _⟩
  have H0 := Lib.hid h0
  have H := Lib.hid (And.intro hB hl)
  clear h hx hB h0 hl
  have cv2 := cvD8
  have k0 : wrap64 ((s : Int) - 1) = (s : Int) - 1 := IntWalk.wrap64_in _ ⟨by omega, by omega⟩
  go_enter Tryz.func70, Tryz.ntmps70
  go_wp2
  go_loopw [0, 7] (fun v v7 wr => BgRel B w l x s v v7 wr) (fun _ v7 _ => (intOf v7 + 1).toNat)
  case atStart => exact H0.out
  case round =>
    obtain ⟨p2, n2, c2, dn, k, rfl, rfl, hk, ho, hdn, hBx, hb⟩ := hrel
    have HB : B ≤ wr.heap.size := by have := hb.size; have := H.out.1; omega
    have hol := ho.len
    have hdl : dn.length + k = s := by
      have := congrArg List.length hdn
      rwa [List.length_append, bgK_len, bgK_len] at this
    have HO := Lib.hid (And.intro ho (And.intro hBx (And.intro hb (And.intro HB (And.intro hol (And.intro hdn hdl))))))
    clear ho hBx hb HB hol hdn hdl
    cases k with
    | zero =>
      have k1 : ¬ ((0 : Int) ≤ ((0 : Nat) : Int) - 1) := by omega
      go_wp2
      go_ret
      refine ⟨p2, n2, c2, rfl, ?_, HO.out.2.1, HO.out.2.2.1⟩
      have h := HO.out.1
      have e := HO.out.2.2.2.2.2.1
      simp only [bgK, List.append_nil] at e
      rwa [e] at h
    | succ i =>
      have e1 : (((i + 1 : Nat) : Int) - 1) = (i : Int) := by omega
      rw [e1]
      have k1 : (0 : Int) ≤ (i : Int) := by omega
      have k2 : IntKind.i64.wrap (8 * (i : Int)) = 8 * (i : Int) := IntWalk.i64_in _ (by omega)
      have k2' : wrap64 (8 * (i : Int)) = 8 * (i : Int) := IntWalk.wrap64_in _ ⟨by omega, by omega⟩
      have k3 : wrap64 ((i : Int) - 1) = (i : Int) - 1 := IntWalk.wrap64_in _ ⟨by omega, by omega⟩
      have hsh : ∀ wx, (binOp .shr 35 (D x) (.int .i64 (8 * (i : Int)))).run Tryz.prog wx = .ok (D (shr64 x (8 * i))) wx := fun wx => by
        have h := D_shr (P := Tryz.prog) (w := wx) (t := 35) (x := x) .i64 (8 * (i : Int)) (by omega)
        rwa [show (8 * (i : Int)).toNat = 8 * i by omega] at h
      have hrd : Rd (wr.alloc (.cells #[.int .u8 ((cut8 (shr64 x (8 * i))).toNat : Int)] 5)) (· = wr.heap.size) (some ⟨wr.heap.size, 0, none⟩) [cut8 (shr64 x (8 * i))] := Rd.lit wr [cut8 (shr64 x (8 * i))]
      generalize hZ : cut8 (shr64 x (8 * i)) = Z at *
      go_wp2_with (at_builtin; refine wpList_app8 rfl _ _ rfl (HO.out.1.below ((Below.refl _ _).alloc (Nat.le_refl _) _)) rfl (· = wr.heap.size) (some ⟨wr.heap.size, 0, none⟩) 1 1 [Z] rfl rfl hrd (fun h => by cases h) (by have := H.out.2; have := HO.out.2.2.2.2.2.2; simp; omega) ?_; intro p3 n3 c3 w3 h1 h2 h3)
      have hsz : (wr.alloc (.cells #[.int .u8 (Z.toNat : Int)] 5)).heap.size = wr.heap.size + 1 := by rw [World.size_alloc]
      have hbw := (HO.out.2.2.1.alloc HO.out.2.2.2.1 (.cells #[.int .u8 (Z.toNat : Int)] 5))
      refine ⟨⟨p3, n3, c3, dn ++ [Z], i, rfl, rfl, by omega, by rw [← List.append_assoc]; exact h1, ?_, fun k hk => (by rcases h2 k hk with h | h; (· exact HO.out.2.1 k h); (· have := HO.out.2.2.2.1; omega)), below_lift hbw h3 (by have := HO.out.2.2.2.1; omega) HO.out.2.1⟩, by simp [intOf]⟩
      have e := HO.out.2.2.2.2.2.1
      rw [bgK, hZ] at e
      rw [List.append_assoc]
      exact e
set_option maxHeartbeats 4000000 in
theorem number_c (S : Nat → Prop) (g o n c : Nat) (b : List UInt8) (w : World) (hR : Rd w S (some ⟨g, o, none⟩) b) (hn : b.length = n) (hnm : n ≤ 1000000) :
    Calls Tryz.prog 110 #[.slice (some ⟨g, o, none⟩) n c] w fun e w' => e = .returned (D (nuF b)) ∧ w' = w := by
  have HR := Lib.hid (And.intro hR (And.intro hn hnm))
  clear hR hn hnm
  have cv := cvB64
  go_enter Tryz.func110, Tryz.ntmps110
  go_wp2
  go_loopw [3, 5, 8, 17] (fun v3 v5 v8 v17 wr => ∃ i : Nat, v8 = .int .i64 (i : Int) ∧ v3 = D (nuF (b.take i)) ∧ i ≤ n ∧ wr = w) (fun _ _ v8 _ _ => (n - (intOf v8).toNat))
  case atStart => exact ⟨0, rfl, rfl, by omega, rfl⟩
  case round =>
    obtain ⟨i, rfl, rfl, hi, hwr⟩ := hrel
    subst hwr
    by_cases hik : i < n
    · have hil : i < b.length := by rw [HR.out.2.1]; exact hik
      obtain ⟨a, ha, _, hca⟩ := HR.out.1 i hil
      cases ha
      have hadd : (⟨g, o, none⟩ : Addr).add i = ⟨g, o + i, none⟩ := by unfold Addr.add; split <;> simp_all
      rw [hadd] at hca
      obtain ⟨B, hBd⟩ : ∃ B : UInt8, B = b[i]'hil := ⟨_, rfl⟩
      rw [← hBd] at hca
      have hc1 : wr.cell? ⟨g, o + i, none⟩ = some (.int .u8 (B.toNat : Int)) := hca
      have hst : nuF (b.take (i + 1)) = shl64 (nuF (b.take i)) 8 ||| B.toUInt64 := by
        rw [List.take_succ_eq_append_getElem hil, ← hBd]
        unfold nuF
        rw [List.foldl_append]
        rfl
      have HST := Lib.hid hst
      have k1 : (i : Int) < (n : Int) := by omega
      have hnm := HR.out.2.2
      have k3 : wrap64 ((i : Int) + 1) = (i : Int) + 1 := IntWalk.wrap64_in _ ⟨by omega, by omega⟩
      generalize nuF (b.take i) = X at *
      have hsh : ∀ wx, (binOp .shl 35 (D X) (.int .u64 8)).run Tryz.prog wx = .ok (D (shl64 X 8)) wx := fun wx => D_shl (P := Tryz.prog) (w := wx) (t := 35) (x := X) .u64 8 (by omega)
      clear hca hBd hadd hil hst
      go_wp2
      refine ⟨⟨i + 1, by simp, by rw [HST.out], by omega, trivial⟩, by simp [intOf]; omega⟩
    · obtain rfl : i = n := by omega
      have k1 : ¬ (i : Int) < (i : Int) := by omega
      have hX : nuF (b.take i) = nuF b := by rw [List.take_of_length_le (by rw [HR.out.2.1]; exact Nat.le_refl _)]
      rw [hX]
      clear hX
      go_wp2
      go_ret
      exact ⟨rfl, rfl⟩
theorem need_c (n : Nat) (w : World) (h : n ≤ 1000000) : Calls Tryz.prog 73 #[.int .i64 (n : Int)] w fun e w' => e = .returned (.int .i64 ((needF n : Nat) : Int)) ∧ w' = w := by
  have k1 : wrap64 ((n : Int) + 18) = (n : Int) + 18 := IntWalk.wrap64_in _ ⟨by omega, by omega⟩
  have k2 : wrap64 ((n : Int) + 18 + 64) = (n : Int) + 18 + 64 := IntWalk.wrap64_in _ ⟨by omega, by omega⟩
  have k3 : wrap64 ((n : Int) + 18 + 64 - 1) = (n : Int) + 18 + 64 - 1 := IntWalk.wrap64_in _ ⟨by omega, by omega⟩
  have k4 : ((n : Int) + 18 + 64 - 1).tdiv 64 = ((needF n : Nat) : Int) := by unfold needF; rw [Int.tdiv_eq_ediv_of_nonneg (by omega)]; omega
  have k5 : ((n : Int) + 18 + 64 - 1) / 64 = ((needF n : Nat) : Int) := by unfold needF; omega
  go_enter Tryz.func73, Tryz.ntmps73
  go_wp2
  go_ret
  exact ⟨by simp [k1, k2, k3, k5], rfl⟩
end Go.Proofs.YtolgaapiedbkfaaGreat
/-
  The contracts of journal's usable, size and first. Conditions: a disk with power, and four sectors at least.
-/
namespace Go.Proofs.YtolgaapiedbkfaaGreat
open Go.RowKit Go.Kx
set_option linter.unusedVariables false
set_option linter.unusedSimpArgs false
set_option maxRecDepth 100000
def areaF (n : Nat) : Nat := (n - 2) / 2
theorem jSize_c (r g n k : Nat) (L : List UInt8) (w : World) (h : DiskI w r g n k L) (h2 : 2 ≤ n) : Calls Tryz.prog 85 #[rp r] w fun e w' => e = .returned (.int .i64 ((areaF n : Nat) : Int)) ∧ w' = w := by
  have hn := h.n0.2
  have k1 : wrap64 ((n : Int) - 2) = (n : Int) - 2 := IntWalk.wrap64_in _ ⟨by omega, by omega⟩
  have k2 : ((n : Int) - 2) / 2 = ((areaF n : Nat) : Int) := by unfold areaF; omega
  have k3 : ((n : Int) - 2).tdiv 2 = ((areaF n : Nat) : Int) := by rw [Int.tdiv_eq_ediv_of_nonneg (by omega)]; exact k2
  go_enter Tryz.func85, Tryz.ntmps85
  go_wp2_with (go_at_call 66; refine (dSize_c r g n k L _ h).mono ?_; rintro e w1 ⟨rfl, hw⟩; rw [hw]; clear hw w1)
  go_ret
  exact ⟨by simp [k1, k2], rfl⟩
theorem jFirst_c (r g n k a : Nat) (L : List UInt8) (w : World) (h : DiskI w r g n k L) (h2 : 2 ≤ n) (ha : a ≤ 1) : Calls Tryz.prog 86 #[rp r, .int .i64 (a : Int)] w fun e w' => e = .returned (.int .i64 ((2 + a * areaF n : Nat) : Int)) ∧ w' = w := by
  have hn := h.n0.2
  have hA : areaF n ≤ 512 := by unfold areaF; omega
  have hm : a * areaF n ≤ 512 := by
    have := Nat.mul_le_mul ha hA
    omega
  have k0 : ((a : Int) * ((areaF n : Nat) : Int)) = ((a * areaF n : Nat) : Int) := by rw [Int.natCast_mul]
  have k1 : wrap64 ((a : Int) * ((areaF n : Nat) : Int)) = ((a * areaF n : Nat) : Int) := by rw [k0]; exact IntWalk.wrap64_in _ ⟨by omega, by omega⟩
  have k2 : wrap64 (2 + ((a * areaF n : Nat) : Int)) = ((2 + a * areaF n : Nat) : Int) := by rw [IntWalk.wrap64_in _ ⟨by omega, by omega⟩]; omega
  have K := Lib.hid (And.intro k1 k2)
  clear k0 k1 k2
  go_enter Tryz.func86, Tryz.ntmps86
  go_wp2_with (go_at_call 85; refine (jSize_c r g n k L _ h h2).mono ?_; rintro e w1 ⟨rfl, hw⟩; rw [hw]; clear hw w1)
  go_ret
  exact ⟨by simp, rfl⟩
theorem jUsable_c (r g n k : Nat) (L : List UInt8) (w : World) (h : DiskI w r g n k L) (h4 : 4 ≤ n) : Calls Tryz.prog 33 #[rp r] w fun e w' => e = .returned (.int .i64 0) ∧ w' = w := by
  have k1 : ¬ ((n : Int) < 4) := by omega
  go_enter Tryz.func33, Tryz.ntmps33
  go_wp2_with (go_at_call 66; refine (dSize_c r g n k L _ h).mono ?_; rintro e w1 ⟨rfl, hw⟩; rw [hw]; clear hw w1)
  go_ret
  exact ⟨rfl, rfl⟩
end Go.Proofs.YtolgaapiedbkfaaGreat
/-
  The contract of journal's mark. Condition: no more bytes than a million.
-/
namespace Go.Kx
open Go.Proofs.YtolgaapiedbkfaaGreat
def markM (gen : UInt64) (num : Nat) (b : List UInt8) : List UInt8 := bgK gen 8 ++ bgK (UInt64.ofNat num) 4 ++ bgK (UInt64.ofNat b.length) 2 ++ b
/-- The sum whose first sixteen bytes are the mark. -/
def markS (gen : UInt64) (num : Nat) (b : List UInt8) : List UInt8 := sumL (markM gen num b)
end Go.Kx
namespace Go.Proofs.YtolgaapiedbkfaaGreat
open Go.RowKit Go.Kx
set_option linter.unusedVariables false
set_option linter.unusedSimpArgs false
set_option maxRecDepth 100000
theorem big_8 (B : Nat) (p : Option Addr) (n c : Nat) (l : List UInt8) (x : UInt64) (w : World) (h : OB w p n c l) (hx : ∀ k, owB p n c k → B ≤ k) (hB : B ≤ w.heap.size) (hl : l.length ≤ 4000000) :
    Calls Tryz.prog 70 #[.slice p n c, D x, .int .i64 8] w (GrowOB B w (l ++ bgK x 8)) := big_c B p n c l x 8 w h hx hB (by decide) hl
theorem big_4 (B : Nat) (p : Option Addr) (n c : Nat) (l : List UInt8) (x : UInt64) (w : World) (h : OB w p n c l) (hx : ∀ k, owB p n c k → B ≤ k) (hB : B ≤ w.heap.size) (hl : l.length ≤ 4000000) :
    Calls Tryz.prog 70 #[.slice p n c, D x, .int .i64 4] w (GrowOB B w (l ++ bgK x 4)) := big_c B p n c l x 4 w h hx hB (by decide) hl
theorem big_2 (B : Nat) (p : Option Addr) (n c : Nat) (l : List UInt8) (x : UInt64) (w : World) (h : OB w p n c l) (hx : ∀ k, owB p n c k → B ≤ k) (hB : B ≤ w.heap.size) (hl : l.length ≤ 4000000) :
    Calls Tryz.prog 70 #[.slice p n c, D x, .int .i64 2] w (GrowOB B w (l ++ bgK x 2)) := big_c B p n c l x 2 w h hx hB (by decide) hl
/-- What mark tells. -/
def MkR (w : World) (S : List UInt8) (e : Ending) (w' : World) : Prop := ∃ G, e = .returned (.slice (some ⟨G, 0, none⟩) 16 32) ∧ ArrB w' G 29 S ∧ w.heap.size ≤ G ∧ Below w.heap.size w w'
set_option maxHeartbeats 4000000 in
theorem mark_c (gen : UInt64) (num : Nat) (T : Nat → Prop) (q : Option Addr) (m k : Nat) (b : List UInt8) (w : World) (hR : Rd w T q b) (hq : q = none → k = 0) (hm : b.length = m) (hl : m ≤ 1000000) (hnum : num ≤ 1000000) :
    Calls Tryz.prog 115 #[D gen, .int .i64 (num : Int), .slice q m k] w (MkR w (markS gen num b)) := by
  have cv1 := cv35 num hnum
  have cv2 := cv35 m hl
  have H := Lib.hid (And.intro hR (And.intro hq (And.intro hm hl)))
  clear hR hq hm hl
  generalize hWs : w.heap.size = B
  go_enter Tryz.func115, Tryz.ntmps115
  go_upto_region 2 with (go_at_call 70; apply Calls.mono; (· (with_reducible refine big_8 B none 0 0 [] gen _ ?_ ?_ ?_ ?_); (· exact OB.nil _); (· intro k hk; cases hk); (· omega); (· simp)); rintro e w1 ⟨p1, n1, c1, rfl, h1, x1, b1⟩; rw [List.nil_append] at h1)
  go_upto_region 3 with (go_at_call 70; apply Calls.mono; (· (with_reducible refine big_4 B p1 n1 c1 (bgK gen 8) (UInt64.ofNat num) _ ?_ ?_ ?_ ?_); (· exact h1); (· exact x1); (· have := b1.size; omega); (· rw [bgK_len]; omega)); rintro e w2 ⟨p2, n2, c2, rfl, h2, x2, b2⟩; have b2 := b1.trans b2)
  go_upto_region 4 with (go_at_call 70; apply Calls.mono; (· (with_reducible refine big_2 B p2 n2 c2 (bgK gen 8 ++ bgK (UInt64.ofNat num) 4) (UInt64.ofNat m) _ ?_ ?_ ?_ ?_); (· exact h2); (· exact x2); (· have := b2.size; omega); (· rw [List.length_append, bgK_len, bgK_len]; omega)); rintro e w3 ⟨p3, n3, c3, rfl, h3, x3, b3⟩; have b3 := b2.trans b3)
  have hb3 : Below w.heap.size w w3 := by rw [hWs]; exact b3
  have hM : bgK gen 8 ++ bgK (UInt64.ofNat num) 4 ++ bgK (UInt64.ofNat m) 2 ++ b = markM gen num b := by rw [← H.out.2.2.1]; rfl
  have hl3 : (bgK gen 8 ++ bgK (UInt64.ofNat num) 4 ++ bgK (UInt64.ofNat m) 2).length = 14 := by rw [List.length_append, List.length_append, bgK_len, bgK_len, bgK_len]
  generalize bgK gen 8 ++ bgK (UInt64.ofNat num) 4 ++ bgK (UInt64.ofNat m) 2 = L3 at *
  have hMl : (markM gen num b).length ≤ 2000000 := by rw [← hM, List.length_append, hl3]; have := H.out.2.2.1; have := H.out.2.2.2; omega
  have HMl := Lib.hid (And.intro hMl (And.intro hl3 hM))
  clear hMl hl3 hM
  go_upto_region 5 with (first
    | (at_builtin; refine wpList_app8 rfl _ _ rfl h3 rfl T q m k b rfl H.out.2.2.1 (H.out.1.below hb3) H.out.2.1 (by have := HMl.out.2.1; have := H.out.2.2.1; have := H.out.2.2.2; omega) ?_; rw [HMl.out.2.2]; intro p4 n4 c4 w4 h4 x4 hO4)
    | (go_at_call 71; apply Calls.mono; (· (with_reducible refine sum_c (fun k => owB p4 n4 c4 k) p4 n4 c4 (markM gen num b) _ ?_ ?_ ?_ ?_); (· exact h4.rd); (· exact h4.nilc); (· have := HMl.out.1; omega); (· exact h4.len)); rintro e w5 ⟨rfl, b5⟩)
    | (refine st_arrB rfl 29 (.tmp 8) (.tmp 23) rfl w5.heap.size (sumL (markM gen num b)) rfl rfl _ (List.replicate 32 0) (ArrB.new w5 29 (List.replicate 32 0)) (by rw [sumL_len]; exact Tryz.infoB32) (by rw [sumL_len]; simp) ?_; intro w6 hA6 hO6))
  have hB4 : Below w.heap.size w w4 := below_only hb3 hb3.size hO4 (fun k hk e => by have := x3 k e; omega)
  have hB5 := hB4.trans (b5.mono hB4.size)
  have hB6 : Below w.heap.size w w6 := below_only (hB5.alloc hB5.size (.cells ((List.replicate 32 (0 : UInt8)).map B8).toArray 29)) (by rw [World.size_alloc]; have := hB5.size; omega) hO6 (fun k hk e => by have := hB5.size; omega)
  have hge := hB5.size
  clear hO4 hO6 b5 h4 x4 h3 x3 hb3 b3 b2 b1
  generalize w5.heap.size = G at *
  go_wp2
  go_ret
  exact ⟨G, rfl, hA6, hge, hB6⟩
end Go.Proofs.YtolgaapiedbkfaaGreat
/-
  append(b, make([]byte, n)...): onto a row of the call's own. Condition: one byte at least, and no more than a million.
-/
namespace Go.Proofs.YtolgaapiedbkfaaGreat
open Go.RowKit Go.Kx
set_option linter.unusedVariables false
set_option linter.unusedSimpArgs false
set_option maxRecDepth 100000
theorem zeroCells_8 (n : Nat) : Builtin.zeroCells #[.int .u8 0] n = ((List.replicate n (0 : UInt8)).map B8).toArray := by
  apply Array.ext
  · simp [size_zeroCells]
  · intro i h1 h2
    simp [Builtin.zeroCells, Nat.mod_one]
theorem run_app0_room (w : World) (ty : TypeId) (g sLen sCap n : Nat) (cur : Array Value) (hg : w.heap[g]? = some (.cells cur 5 (0, 0))) (h0 : 0 < n) (hn : n ≤ 1000000) (hroom : sLen + n ≤ sCap) (hfit : sLen + n ≤ cur.size) :
    (Builtin.append_ #[38, 3] ty #[.slice (some ⟨g, 0, none⟩) sLen sCap, .int .i64 (n : Int)]).run Tryz.prog w =
      .ok (.slice (some ⟨g, 0, none⟩) (sLen + n) sCap) (w.setRow g (cur.toList.take sLen ++ (List.replicate n (0 : UInt8)).map B8 ++ cur.toList.drop (sLen + n)).toArray) := by
  have hI := Tryz.info5
  cases hq : Tryz.prog.info? 5 with
  | none => rw [hq] at hI; cases hI
  | some i =>
    rw [hq] at hI
    simp only [Option.map_some, Option.some.injEq, Prod.mk.injEq] at hI
    obtain ⟨hz, hs, hb⟩ := hI
    have hw : IntKind.i64.wrap (n : Int) = (n : Int) := IntWalk.i64_in _ (by omega)
    have h1 : ¬ ((n : Int) < 0) := by omega
    have h2 : ¬ (281474976710656 < (n : Int)) := by omega
    have h3 : ¬ (n = 0) := by omega
    have hst := run_storeCells_at Tryz.prog g sLen 5 ((List.replicate n (0 : UInt8)).map B8) 0 cur w hg (by simpa using hfit) (ones8 _)
    simp only [Nat.add_zero] at hst
    rw [show (List.map B8 (List.replicate n (0 : UInt8))).length = n by simp] at hst
    have hzc := zeroCells_8 n
    simp [Builtin.append_, run_underlying Tryz.underlying38, run_underlying Tryz.underlying3, sizeOf, typeInfo, zeroValue, hq, hz, hs, hb, asInt, asIntOf, hw, h1, h2, h3, hroom, Addr.add_lit, Value.cells]
    rw [hzc]
    simp only [List.toList_toArray]
    rw [hst]
    simp
theorem run_app0_grow (w : World) (ty : TypeId) (base : Option Addr) (sLen sCap n : Nat) (olds : List Value) (hold : (Builtin.firstCells 1 sLen (.slice base sLen sCap)).run Tryz.prog w.drew = .ok olds.toArray w.drew) (h0 : 0 < n) (hn : n ≤ 1000000) (hg : sCap < sLen + n) (hl : sLen ≤ 1000000) :
    (Builtin.append_ #[38, 3] ty #[.slice base sLen sCap, .int .i64 (n : Int)]).run Tryz.prog w =
      .ok (.slice (some ⟨w.heap.size, 0, none⟩) (sLen + n) (grownCap w (sLen + n) sCap 5))
        (w.drew.alloc (.cells ((olds ++ (List.replicate n (0 : UInt8)).map B8).toArray ++ Builtin.zeroCells #[.int .u8 0] (grownCap w (sLen + n) sCap 5 - (sLen + n))) 5)) := by
  have hI := Tryz.info5
  cases hq : Tryz.prog.info? 5 with
  | none => rw [hq] at hI; cases hI
  | some i =>
    rw [hq] at hI
    simp only [Option.map_some, Option.some.injEq, Prod.mk.injEq] at hI
    obtain ⟨hz, hs, hb⟩ := hI
    have hw : IntKind.i64.wrap (n : Int) = (n : Int) := IntWalk.i64_in _ (by omega)
    have h1 : ¬ ((n : Int) < 0) := by omega
    have h2 : ¬ (281474976710656 < (n : Int)) := by omega
    have h3 : ¬ (n = 0) := by omega
    have hnr : ¬ (sLen + n ≤ sCap) := by omega
    have h63' : ¬ (9223372036854775807 < ((sLen : Int) + (n : Int))) := by omega
    have hf := growslice_fits (need := sLen + n) (old := sCap) (bytes := 1) (by omega) (by omega)
    rw [Nat.mul_one] at hf
    have h48' : ¬ (281474976710656 < Builtin.nextslicecap (sLen + n) sCap) := by omega
    have hzc := zeroCells_8 n
    simp [Builtin.append_, run_underlying Tryz.underlying38, run_underlying Tryz.underlying3, sizeOf, typeInfo, zeroValue, hq, hz, hs, hb, asInt, asIntOf, hw, h1, h2, h3, hnr, h63', h48', hold, newRow, grownCap, Question.forced, Value.cells]
    rw [hzc]
    congr 2
    apply Array.ext'
    simp
/-- append of so many noughts onto it. -/
theorem OB.app0 {w : World} {p : Option Addr} {n c m : Nat} {l : List UInt8} (h : OB w p n c l) (ty : TypeId) (h0 : 0 < m) (hm : m ≤ 1000000) (hl : l.length ≤ 1000000) :
    ∃ p' n' c' w', (Builtin.append_ #[38, 3] ty #[.slice p n c, .int .i64 (m : Int)]).run Tryz.prog w = .ok (.slice p' n' c') w' ∧ OB w' p' n' c' (l ++ List.replicate m 0) ∧ (∀ k, owB p' n' c' k → owB p n c k ∨ k = w.heap.size) ∧ Only (fun k => owB p n c k) w w' := by
  have hn := h.len
  have hml : (List.replicate m (0 : UInt8)).length = m := by simp
  have hmap : (l ++ List.replicate m 0).map B8 = l.map B8 ++ (List.replicate m (0 : UInt8)).map B8 := List.map_append ..
  have grow : ∀ (olds : (Builtin.firstCells 1 n (.slice p n c)).run Tryz.prog w.drew = .ok (l.map B8).toArray w.drew) (hg : c < n + m),
      ∃ p' n' c' w', (Builtin.append_ #[38, 3] ty #[.slice p n c, .int .i64 (m : Int)]).run Tryz.prog w = .ok (.slice p' n' c') w' ∧ OB w' p' n' c' (l ++ List.replicate m 0) ∧ (∀ k, owB p' n' c' k → owB p n c k ∨ k = w.heap.size) ∧ Only (fun k => owB p n c k) w w' := by
    intro olds hg
    have hr := run_app0_grow w ty p n c m (l.map B8) olds h0 hm hg (by omega)
    have hge := grownCap_ge w (n + m) c 5
    have hcm : grownCap w (n + m) c 5 ≤ maxLen := grownCap_le_maxLen w (n + m) c 5 (by unfold maxLen; omega)
    refine ⟨_, _, _, _, hr, ⟨⟨by simp; omega, .inr ⟨w.heap.size, _, _, rfl, Nat.zero_le _, heap_alloc_new w.drew _, hge, hcm, ?_, ?_⟩⟩, by simp; omega⟩, fun k hk => ?_, ?_⟩
    · simp [size_zeroCells]
      omega
    · rw [hmap]
      simp only [Array.toList_append, List.toList_toArray]
      rw [List.take_left' (by simp; omega)]
    · cases hk
      exact .inr rfl
    · exact Only.of_below (((Below.refl _ w).drew).alloc (Nat.le_refl _) _)
  have hown := h.own
  rcases hown.2 with ⟨hv, hx⟩ | ⟨g, cap, cur, hv, hbg, hg, hnc, hcm, hcs, htake⟩
  · cases hv
    have hl0 : l = [] := List.eq_nil_of_length_eq_zero hn
    subst hl0
    exact grow (by simp [Builtin.firstCells]) (by omega)
  · cases hv
    by_cases hroom : n + m ≤ c
    · have hsz : cur.size = c := by simpa using hcs
      have hr := run_app0_room w ty g n c m cur hg h0 hm hroom (by omega)
      refine ⟨_, _, _, _, hr, ⟨⟨by simp; omega, .inr ⟨g, c, _, rfl, Nat.zero_le _, setRow_heap w g cur _ 5 _ hg, hroom, hcm, ?_, ?_⟩⟩, by simp; omega⟩, fun k hk => .inl hk, (only_setRow' w g _).mono fun k _ e => by rw [e]; rfl⟩
      · simp
        omega
      · rw [hmap]
        simp only [List.toList_toArray]
        have ht : cur.toList.take n = l.map B8 := by simpa using htake
        rw [ht]
        exact List.take_left' (by simp; omega)
    · have holds : ∀ j u, (l.map B8)[j]? = some u → w.cell? ((⟨g, 0, none⟩ : Addr).add j) = some u := hown.cells (g := g) rfl
      have hf := run_firstCells_some (P := Tryz.prog) w.drew 1 n ⟨g, 0, none⟩ n c (l.map B8) (by simp; omega) (by simpa using holds)
      exact grow hf (by omega)
end Go.Proofs.YtolgaapiedbkfaaGreat
/-
  append onto a full row of bytes that is not the call's own: it is always a new row. Condition: one byte at least, and no more than a million together.
-/
namespace Go.Proofs.YtolgaapiedbkfaaGreat
open Go.RowKit Go.Kx
set_option linter.unusedVariables false
set_option linter.unusedSimpArgs false
set_option maxRecDepth 100000
theorem full_app {w : World} {a : Addr} {n : Nat} {l : List UInt8} {S : Nat → Prop} (hR : Rd w S (some a) l) (hn : l.length = n) (ty : TypeId) (T : Nat → Prop) (b : Addr) (m k : Nat) (l2 : List UInt8) (hm : l2.length = m) (h0 : 0 < m) (hR2 : Rd w T (some b) l2) (hb : n + m ≤ 1000000) :
    ∃ p' n' c' w', (Builtin.append_ #[38, 38] ty #[.slice (some a) n n, .slice (some b) m k]).run Tryz.prog w = .ok (.slice p' n' c') w' ∧ OB w' p' n' c' (l ++ l2) ∧ (∀ j, owB p' n' c' j → j = w.heap.size) ∧ Only (fun _ => False) w w' := by
  have hI := Tryz.info5
  have rdc : ∀ {w : World} {S : Nat → Prop} {a : Addr} {l : List UInt8}, Rd w S (some a) l → ∀ j u, (l.map B8)[j]? = some u → w.cell? (a.add j) = some u := by
    intro w S a l h j v hv
    simp only [List.getElem?_map, Option.map_eq_some_iff] at hv
    obtain ⟨x, hx, rfl⟩ := hv
    obtain ⟨hj, rfl⟩ := List.getElem?_eq_some_iff.1 hx
    obtain ⟨a', ha', _, hc'⟩ := h j hj
    cases ha'
    exact hc'
  cases hq : Tryz.prog.info? 5 with
  | none => rw [hq] at hI; cases hI
  | some i =>
    rw [hq] at hI
    simp only [Option.map_some, Option.some.injEq, Prod.mk.injEq] at hI
    obtain ⟨hz, hs, hby⟩ := hI
    have hr := run_append_grow (P := Tryz.prog) w 38 ty 5 i (.int .u8 0) Tryz.underlying38 hq hz a n n (l.map B8) (by rw [hs]; simp; omega) (rdc hR) b m k (l2.map B8) (by rw [hs]; simp; omega) (rdc hR2) (by omega) (by omega) (growslice_fits (by omega) (by rw [hby]; omega))
    have hge := grownCap_ge w (n + m) n 5
    have hcm : grownCap w (n + m) n 5 ≤ maxLen := grownCap_le_maxLen w (n + m) n 5 (by unfold maxLen; omega)
    refine ⟨_, _, _, _, hr, ⟨⟨by simp; omega, .inr ⟨w.heap.size, _, _, rfl, Nat.zero_le _, heap_alloc_new w.drew _, hge, hcm, ?_, ?_⟩⟩, by simp; omega⟩, fun j hj => ?_, Only.of_below (((Below.refl _ w).drew).alloc (Nat.le_refl _) _)⟩
    · simp [size_zeroCells, Value.cells]
      omega
    · simp only [Array.toList_append, List.toList_toArray, List.map_append, List.append_assoc]
      rw [← List.append_assoc, List.take_left' (by simp; omega)]
    · cases hj
      rfl
end Go.Proofs.YtolgaapiedbkfaaGreat
/-
  The contract of journal's big onto a full row that is not the call's own. Condition: at least one byte.
-/
namespace Go.Proofs.YtolgaapiedbkfaaGreat
open Go.RowKit Go.Kx
set_option linter.unusedVariables false
set_option linter.unusedSimpArgs false
set_option maxRecDepth 100000
attribute [local go_sem ↓] D_add D_mul D_xor D_or D_and D_not D_sub D_lss D_eql D_neq
attribute [local go_sem ↓] D_guard1 D_guard2
attribute [local go_sem ↓] exec_stD
attribute [local go_sem] D_cells D_one D_store st1_D st1_i
attribute [local go_sem ↓] D_shl D_shr
theorem wpList_full {w : World} {ops : Array Oper} {rest : List Oper} {o : Oper} {act : Act} {Q : Exit → Act → World → Prop} (hgd : o.guard = none) (s x : Operand)
    (ho : (o.op, o.type) = (.call { callee := .builtin .append, args := #[s, x], argTypes := #[38, 38] }, 38)) {a : Addr} {n : Nat} {l : List UInt8} {S : Nat → Prop} (h : Rd w S (some a) l) (hs : act.eval s = .slice (some a) n n) (hn : l.length = n)
    (T : Nat → Prop) (b : Addr) (m k : Nat) (l2 : List UInt8) (hx : act.eval x = .slice (some b) m k) (hm : l2.length = m) (h0 : 0 < m) (hR : Rd w T (some b) l2) (hb : n + m ≤ 1000000)
    (hK : ∀ p' n' c' w', OB w' p' n' c' (l ++ l2) → (∀ j, owB p' n' c' j → j = w.heap.size) → Only (fun _ => False) w w' → wpList Tryz.prog ops Q rest (act.put o.dst (.slice p' n' c')) w') : wpList Tryz.prog ops Q (o :: rest) act w := by
  injection ho with e1 e2
  obtain ⟨p', n', c', w', hr, h1, h2, h3⟩ := full_app h hn o.type T b m k l2 hm h0 hR hb
  exact wpList_plain hgd fun K hK' => wp_append_run w s x 38 e1 _ _ hs hx hr (hK' _ _ (hK p' n' c' w' h1 h2 h3))
def BfRel (B : Nat) (w : World) (l : List UInt8) (x : UInt64) (s : Nat) (a : Addr) (n : Nat) (v v7 : Value) (wr : World) : Prop := (v = .slice (some a) n n ∧ v7 = .int .i64 ((s : Int) - 1) ∧ wr = w) ∨ BgRel B w l x s v v7 wr
set_option maxHeartbeats 4000000 in
theorem big_full_c (B : Nat) (a : Addr) (n : Nat) (l : List UInt8) (x : UInt64) (s : Nat) (S : Nat → Prop) (w : World) (h : Rd w S (some a) l) (hB : B ≤ w.heap.size) (hn : l.length = n) (hl : n ≤ 1000) (hs : s ≤ 8) (hs1 : 1 ≤ s) :
    Calls Tryz.prog 70 #[.slice (some a) n n, D x, .int .i64 (s : Int)] w (GrowOB B w (l ++ bgK x s)) := by
  have H := Lib.hid (And.intro h (And.intro hB (And.intro hn hl)))
  clear h hB hn hl
  have cv2 := cvD8
  have k0 : wrap64 ((s : Int) - 1) = (s : Int) - 1 := IntWalk.wrap64_in _ ⟨by omega, by omega⟩
  go_enter Tryz.func70, Tryz.ntmps70
  go_wp2
  go_loopw [0, 7] (fun v v7 wr => BfRel B w l x s a n v v7 wr) (fun _ v7 _ => (intOf v7 + 1).toNat)
  case atStart => exact .inl ⟨rfl, rfl, rfl⟩
  case round =>
    rcases hrel with hrel | hrel
    · obtain ⟨rfl, rfl, hwr⟩ := hrel
      subst hwr
      obtain ⟨i, hsi⟩ : ∃ i, i + 1 = s := ⟨s - 1, by omega⟩
      have e1 : ((s : Int) - 1) = (i : Int) := by omega
      have HSI := Lib.hid hsi
      rw [e1]
      have k1 : (0 : Int) ≤ (i : Int) := by omega
      have k2 : IntKind.i64.wrap (8 * (i : Int)) = 8 * (i : Int) := IntWalk.i64_in _ (by omega)
      have k2' : wrap64 (8 * (i : Int)) = 8 * (i : Int) := IntWalk.wrap64_in _ ⟨by omega, by omega⟩
      have k3 : wrap64 ((i : Int) - 1) = (i : Int) - 1 := IntWalk.wrap64_in _ ⟨by omega, by omega⟩
      have hsh : ∀ wx, (binOp .shr 35 (D x) (.int .i64 (8 * (i : Int)))).run Tryz.prog wx = .ok (D (shr64 x (8 * i))) wx := fun wx => by
        have h := D_shr (P := Tryz.prog) (w := wx) (t := 35) (x := x) .i64 (8 * (i : Int)) (by omega)
        rwa [show (8 * (i : Int)).toNat = 8 * i by omega] at h
      have hrd : Rd (wr.alloc (.cells #[.int .u8 ((cut8 (shr64 x (8 * i))).toNat : Int)] 5)) (· = wr.heap.size) (some ⟨wr.heap.size, 0, none⟩) [cut8 (shr64 x (8 * i))] := Rd.lit wr [cut8 (shr64 x (8 * i))]
      generalize hZ : cut8 (shr64 x (8 * i)) = Z at *
      have hi8 : i ≤ 8 := by omega
      clear e1 hsi k0
      go_wp2_with (at_builtin; refine wpList_full rfl _ _ rfl (H.out.1.below ((Below.refl _ _).alloc (Nat.le_refl _) _)) rfl H.out.2.2.1 (· = wr.heap.size) ⟨wr.heap.size, 0, none⟩ 1 1 [Z] rfl rfl (by decide) hrd (by have := H.out.2.2.2; omega) ?_; intro p3 n3 c3 w3 h1 h2 h3)
      have hsz : (wr.alloc (.cells #[.int .u8 (Z.toNat : Int)] 5)).heap.size = wr.heap.size + 1 := by rw [World.size_alloc]
      have hbw : Below B wr (wr.alloc (.cells #[.int .u8 (Z.toNat : Int)] 5)) := (Below.refl B wr).alloc H.out.2.1 _
      refine ⟨.inr ⟨p3, n3, c3, [Z], i, rfl, rfl, by have := HSI.out; omega, h1, by rw [← HSI.out, bgK, hZ]; rfl, fun k hk => (by have := h2 k hk; have := H.out.2.1; omega), below_lift hbw h3 (by have := H.out.2.1; omega) (fun k hk => hk.elim)⟩, by simp [intOf]⟩
    · obtain ⟨p2, n2, c2, dn, k, rfl, rfl, hk, ho, hdn, hBx, hb⟩ := hrel
      have HB : B ≤ wr.heap.size := by have := hb.size; have := H.out.2.1; omega
      have hol := ho.len
      have hdl : dn.length + k = s := by
        have := congrArg List.length hdn
        rwa [List.length_append, bgK_len, bgK_len] at this
      have HO := Lib.hid (And.intro ho (And.intro hBx (And.intro hb (And.intro HB (And.intro hol (And.intro hdn hdl))))))
      clear ho hBx hb HB hol hdn hdl
      cases k with
      | zero =>
        have k1 : ¬ ((0 : Int) ≤ ((0 : Nat) : Int) - 1) := by omega
        go_wp2
        go_ret
        refine ⟨p2, n2, c2, rfl, ?_, HO.out.2.1, HO.out.2.2.1⟩
        have h := HO.out.1
        have e := HO.out.2.2.2.2.2.1
        simp only [bgK, List.append_nil] at e
        rwa [e] at h
      | succ i =>
        have e1 : (((i + 1 : Nat) : Int) - 1) = (i : Int) := by omega
        rw [e1]
        have k1 : (0 : Int) ≤ (i : Int) := by omega
        have k2 : IntKind.i64.wrap (8 * (i : Int)) = 8 * (i : Int) := IntWalk.i64_in _ (by omega)
        have k2' : wrap64 (8 * (i : Int)) = 8 * (i : Int) := IntWalk.wrap64_in _ ⟨by omega, by omega⟩
        have k3 : wrap64 ((i : Int) - 1) = (i : Int) - 1 := IntWalk.wrap64_in _ ⟨by omega, by omega⟩
        have hsh : ∀ wx, (binOp .shr 35 (D x) (.int .i64 (8 * (i : Int)))).run Tryz.prog wx = .ok (D (shr64 x (8 * i))) wx := fun wx => by
          have h := D_shr (P := Tryz.prog) (w := wx) (t := 35) (x := x) .i64 (8 * (i : Int)) (by omega)
          rwa [show (8 * (i : Int)).toNat = 8 * i by omega] at h
        have hrd : Rd (wr.alloc (.cells #[.int .u8 ((cut8 (shr64 x (8 * i))).toNat : Int)] 5)) (· = wr.heap.size) (some ⟨wr.heap.size, 0, none⟩) [cut8 (shr64 x (8 * i))] := Rd.lit wr [cut8 (shr64 x (8 * i))]
        generalize hZ : cut8 (shr64 x (8 * i)) = Z at *
        go_wp2_with (at_builtin; refine wpList_app8 rfl _ _ rfl (HO.out.1.below ((Below.refl _ _).alloc (Nat.le_refl _) _)) rfl (· = wr.heap.size) (some ⟨wr.heap.size, 0, none⟩) 1 1 [Z] rfl rfl hrd (fun h => by cases h) (by have := H.out.2.2.1; have := H.out.2.2.2; have := HO.out.2.2.2.2.2.2; simp; omega) ?_; intro p3 n3 c3 w3 h1 h2 h3)
        have hsz : (wr.alloc (.cells #[.int .u8 (Z.toNat : Int)] 5)).heap.size = wr.heap.size + 1 := by rw [World.size_alloc]
        have hbw := (HO.out.2.2.1.alloc HO.out.2.2.2.1 (.cells #[.int .u8 (Z.toNat : Int)] 5))
        refine ⟨.inr ⟨p3, n3, c3, dn ++ [Z], i, rfl, rfl, by omega, by rw [← List.append_assoc]; exact h1, ?_, fun k hk => (by rcases h2 k hk with h | h; (· exact HO.out.2.1 k h); (· have := HO.out.2.2.2.1; omega)), below_lift hbw h3 (by have := HO.out.2.2.2.1; omega) HO.out.2.1⟩, by simp [intOf]⟩
        have e := HO.out.2.2.2.2.2.1
        rw [bgK, hZ] at e
        rw [List.append_assoc]
        exact e
end Go.Proofs.YtolgaapiedbkfaaGreat
/-
  The contract of journal's slot. Condition: an area's number of 0 or 1.
-/
namespace Go.Kx
open Go.Proofs.YtolgaapiedbkfaaGreat
def slotH (gen : UInt64) (a : UInt8) : List UInt8 := [82, 76, 65, 89] ++ bgK gen 8 ++ [a] ++ List.replicate 19 0
def slotF (gen : UInt64) (a : UInt8) : List UInt8 := slotH gen a ++ sumL (slotH gen a)
theorem slotH_len (gen : UInt64) (a : UInt8) : (slotH gen a).length = 32 := by simp [slotH, bgK_len]
end Go.Kx
namespace Go.Proofs.YtolgaapiedbkfaaGreat
open Go.RowKit Go.Kx
set_option linter.unusedVariables false
set_option linter.unusedSimpArgs false
set_option maxRecDepth 100000
theorem big_f8 (B : Nat) (a : Addr) (l : List UInt8) (x : UInt64) (S : Nat → Prop) (w : World) (h : Rd w S (some a) l) (hB : B ≤ w.heap.size) (hn : l.length = 4) :
    Calls Tryz.prog 70 #[.slice (some a) 4 4, D x, .int .i64 8] w (GrowOB B w (l ++ bgK x 8)) := big_full_c B a 4 l x 8 S w h hB hn (by decide) (by decide) (by decide)
theorem wpList_app0 {w : World} {ops : Array Oper} {rest : List Oper} {o : Oper} {a : Act} {Q : Exit → Act → World → Prop} (hgd : o.guard = none) (s x : Operand)
    (ho : (o.op, o.type) = (.call { callee := .builtin .append, args := #[s, x], argTypes := #[38, 3] }, 38)) {p : Option Addr} {n c m : Nat} {l : List UInt8} (h : OB w p n c l) (hs : a.eval s = .slice p n c)
    (hx : a.eval x = .int .i64 (m : Int)) (h0 : 0 < m) (hm : m ≤ 1000000) (hl : l.length ≤ 1000000)
    (hK : ∀ p' n' c' w', OB w' p' n' c' (l ++ List.replicate m 0) → (∀ k, owB p' n' c' k → owB p n c k ∨ k = w.heap.size) → Only (fun k => owB p n c k) w w' → wpList Tryz.prog ops Q rest (a.put o.dst (.slice p' n' c')) w') : wpList Tryz.prog ops Q (o :: rest) a w := by
  injection ho with e1 e2
  obtain ⟨p', n', c', w', hr, h1, h2, h3⟩ := h.app0 o.type h0 hm hl
  refine wpList_plain hgd fun K hK' => ?_
  unfold Oper.wp
  simp [execOp, e1, resolve, invoke, builtin, hs, hx, hr, Result.andThen]
  exact hK' _ _ (hK p' n' c' w' h1 h2 h3)
theorem cvA (a : Nat) (ha : a ≤ 255) (w : World) : (convert 3 5 (.int .i64 (a : Int))).run Tryz.prog w = .ok (.int .u8 ((UInt8.ofNat a).toNat : Int)) w := by
  have h : IntKind.u8.wrap (a : Int) = ((UInt8.ofNat a).toNat : Int) := by
    rw [UInt8.toNat_ofNat']
    unfold IntKind.wrap
    simp [IntKind.bits, IntKind.signed]
  have hk : Tryz.prog.intKind 5 = .u8 := by kernel_rfl
  have h2 := run_convert_int (P := Tryz.prog) (w := w) 3 5 .i64 (a : Int) (by rw [Tryz.underlying3]; rfl) (by rw [hk]; exact Tryz.underlying5)
  rw [hk, h] at h2
  exact h2
set_option maxHeartbeats 4000000 in
theorem slot_c (gen : UInt64) (a : Nat) (w : World) (ha : a ≤ 1) : Calls Tryz.prog 36 #[D gen, .int .i64 (a : Int)] w (NewOB w (slotF gen (UInt8.ofNat a))) := by
  have cva := cvA a (by omega)
  have cv := Lib.run_convert_bytes_const (P := Tryz.prog) w 38 5 #[.int .u8 82, .int .u8 76, .int .u8 65, .int .u8 89] 4 4 Tryz.underlying38 Tryz.underlying5
  have hsz4 : (#[Value.int .u8 82, .int .u8 76, .int .u8 65, .int .u8 89]).size = 4 := rfl
  rw [hsz4] at cv
  have hr0 : Rd (w.alloc (.cells #[.int .u8 82, .int .u8 76, .int .u8 65, .int .u8 89] 5 (4, 4 + 1))) (fun k => k = w.heap.size) (some ⟨w.heap.size, 0, none⟩) [82, 76, 65, 89] := rd_marked w 5 [82, 76, 65, 89] (4, 5)
  have hb0 : Below w.heap.size w (w.alloc (.cells #[.int .u8 82, .int .u8 76, .int .u8 65, .int .u8 89] 5 (4, 4 + 1))) := (Below.refl _ _).alloc (Nat.le_refl _) _
  generalize hA : UInt8.ofNat a = A at *
  go_enter Tryz.func36, Tryz.ntmps36
  go_upto_region 1 with (fail)
  go_upto_region 2 with (first
    | (go_at_call 70; apply Calls.mono; (· (with_reducible refine big_f8 w.heap.size ⟨w.heap.size, 0, none⟩ [82, 76, 65, 89] gen (fun k => k = w.heap.size) _ ?_ ?_ ?_); (· exact hr0); (· exact hb0.size); (· rfl)); rintro e w1 ⟨p1, n1, c1, rfl, h1, x1, b1⟩; have b1 := hb0.trans b1; have hrd := Rd.lit w1 [A])
    | (at_builtin; refine wpList_app8 rfl _ _ rfl (h1.below ((Below.refl _ _).alloc (Nat.le_refl _) _)) rfl (· = w1.heap.size) (some ⟨w1.heap.size, 0, none⟩) 1 1 [A] rfl rfl hrd (fun h => by cases h) (by simp [bgK_len]) ?_; intro p2 n2 c2 w2 h2 x2 hO2))
  have hn2 := h2.len
  have hl2 : ([82, 76, 65, 89] ++ bgK gen 8 ++ [A]).length = 13 := by simp [bgK_len]
  rw [hl2] at hn2
  subst hn2
  have hB2 : Below w.heap.size w w2 := below_only (b1.alloc b1.size (.cells #[.int .u8 (A.toNat : Int)] 5)) (by rw [World.size_alloc]; have := b1.size; omega) hO2 (fun k hk e => by have := x1 k e; omega)
  have hx2 : ∀ k, owB p2 13 c2 k → w.heap.size ≤ k := fun k hk => by
    rcases x2 k hk with h | h
    · exact x1 k h
    · rw [World.size_alloc] at h; have := b1.size; omega
  clear hO2 x1 h1 b1 hrd x2 hr0 hb0
  go_upto_region 3 with (refine wpList_app0 (m := 19) rfl _ _ rfl h2 rfl rfl (by decide) (by decide) (by rw [hl2]; decide) ?_; intro p3 n3 c3 w3 h3 x3 hO3)
  have hH : [82, 76, 65, 89] ++ bgK gen 8 ++ [A] ++ List.replicate 19 0 = slotH gen A := rfl
  rw [hH] at h3
  have hB3 : Below w.heap.size w w3 := below_only hB2 hB2.size hO3 (fun k hk e => by have := hx2 k e; omega)
  have hx3 : ∀ k, owB p3 n3 c3 k → w.heap.size ≤ k := fun k hk => by
    rcases x3 k hk with h | h
    · exact hx2 k h
    · have := hB2.size; omega
  have hHl := slotH_len gen A
  have hF : slotF gen A = slotH gen A ++ sumL (slotH gen A) := rfl
  clear hO3 hH h2 x3
  generalize slotH gen A = HH at *
  have HF := Lib.hid hF
  clear hF
  go_upto_region 4 with (first
    | (go_at_call 71; apply Calls.mono; (· (with_reducible refine sum_c (fun k => owB p3 n3 c3 k) p3 n3 c3 HH _ ?_ ?_ ?_ ?_); (· exact h3.rd); (· exact h3.nilc); (· omega); (· exact h3.len)); rintro e w5 ⟨rfl, b5⟩)
    | (refine st_arrB rfl 29 (.tmp 6) (.tmp 21) rfl w5.heap.size (sumL HH) rfl rfl _ (List.replicate 32 0) (ArrB.new w5 29 (List.replicate 32 0)) (by rw [sumL_len]; exact Tryz.infoB32) (by rw [sumL_len]; simp) ?_; intro w6 hA6 hO6))
  have hB5 := hB3.trans (b5.mono hB3.size)
  have hb6 : Below w3.heap.size w3 w6 := below_only (b5.alloc b5.size (.cells ((List.replicate 32 (0 : UInt8)).map B8).toArray 29)) (by rw [World.size_alloc]; have := b5.size; omega) hO6 (fun k hk e => by have := b5.size; omega)
  have hB6 := hB3.trans (hb6.mono hB3.size)
  have h6 := h3.below hb6
  have hrd := ArrB.rd hA6
  have hsl := sumL_len HH
  clear hO6 b5
  go_wp2_with (at_builtin; refine wpList_app8 rfl _ _ rfl h6 rfl (· = w5.heap.size) (some ⟨w5.heap.size, 0, none⟩) 32 32 (sumL HH) rfl hsl hrd (fun h => by cases h) (by omega) ?_; intro p7 n7 c7 w7 h7 x7 hO7)
  go_ret
  exact ⟨p7, n7, c7, rfl, by rw [HF.out]; exact h7, fun k hk => (by rcases x7 k hk with h | h; (· exact hx3 k h); (· have := hB6.size; omega)), below_only hB6 hB6.size hO7 (fun k hk e => by have := hx3 k e; omega)⟩
end Go.Proofs.YtolgaapiedbkfaaGreat
/-
  The contracts of bytes.Equal and of journal's told. Condition: sixty-four bytes.
-/
namespace Go.Kx
open Go.Proofs.YtolgaapiedbkfaaGreat
def genF (b : List UInt8) : UInt64 := nuF ((b.drop 4).take 8)
def arF (b : List UInt8) : UInt8 := b.getD 12 0
def okF (b : List UInt8) : Bool := decide ((arF b).toNat < 2) && decide (b = slotF (genF b) (arF b))
end Go.Kx
namespace Go.Proofs.YtolgaapiedbkfaaGreat
open Go.RowKit Go.Kx
set_option linter.unusedVariables false
set_option linter.unusedSimpArgs false
set_option maxRecDepth 100000
theorem bytesEq_c (S T : Nat → Prop) (p q : Option Addr) (n c m k : Nat) (l l' : List UInt8) (w : World) (h1 : Rd w S p l) (h2 : l.length = n) (h3 : Rd w T q l') (h4 : l'.length = m) : Calls Tryz.prog 111 #[.slice p n c, .slice q m k] w fun e w' => e = .returned (.bool (decide (l = l'))) ∧ w' = w := by
  have e1 := run_str (c := c) h1 h2
  have e2 := run_str (c := k) h3 h4
  go_enter Tryz.func111, Tryz.ntmps111
  go_wp2
  go_ret
  refine ⟨congrArg Ending.returned (congrArg Value.bool ?_), rfl⟩
  rw [Bool.eq_iff_iff]
  simp
theorem cv53 (x : UInt8) (w : World) : (convert 5 3 (.int .u8 (x.toNat : Int))).run Tryz.prog w = .ok (.int .i64 (x.toNat : Int)) w := by
  have h8 := x.toNat_lt
  have h : IntKind.i64.wrap (x.toNat : Int) = (x.toNat : Int) := IntWalk.i64_in _ (by omega)
  have hk : Tryz.prog.intKind 3 = .i64 := by kernel_rfl
  have h2 := run_convert_int (P := Tryz.prog) (w := w) 5 3 .u8 (x.toNat : Int) (by rw [Tryz.underlying5]; rfl) (by rw [hk]; exact Tryz.underlying3)
  rw [hk, h] at h2
  exact h2
theorem results_ttt {P : Program} {fn : Func} (t u v : Tmp) (h : fn.results = #[.tmp t, .tmp u, .tmp v]) (tmps : Array Value) (w : World) {T U V : Value} (h1 : tmps.getD t undef = T) (h2 : tmps.getD u undef = U) (h3 : tmps.getD v undef = V) : (results fn tmps).run P w = .ok (.tuple #[T, U, V]) w := by
  subst h1 h2 h3
  simp [results, h]
/-- What told tells. -/
def TdR (w : World) (b : List UInt8) (e : Ending) (w' : World) : Prop := e = .returned (.tuple #[D (genF b), .int .i64 ((arF b).toNat : Int), .bool (okF b)]) ∧ Below w.heap.size w w'
set_option maxHeartbeats 4000000 in
theorem told_c (S : Nat → Prop) (g o c : Nat) (b : List UInt8) (w : World) (hR : Rd w S (some ⟨g, o, none⟩) b) (hn : b.length = 64) (hc : 64 ≤ c) :
    Calls Tryz.prog 68 #[.slice (some ⟨g, o, none⟩) 64 c] w (TdR w b) := by
  have k1 : (12 : Int) ≤ (c : Int) := by omega
  have k2 : 12 ≤ c := by omega
  have k3 : ¬ (c = 4) := by omega
  have hcell : ∀ {wx : World}, Below w.heap.size w wx → wx.cell? ⟨g, o + 12, none⟩ = some (.int .u8 ((arF b).toNat : Int)) := fun hb => by
    obtain ⟨a, ha, _, hca⟩ := (hR.below hb) 12 (by omega)
    cases ha
    have hadd : (⟨g, o, none⟩ : Addr).add 12 = ⟨g, o + 12, none⟩ := by unfold Addr.add; split <;> simp_all
    rw [hadd] at hca
    have e : arF b = b[12]'(by omega) := by unfold arF; rw [List.getD_eq_getElem?_getD, List.getElem?_eq_getElem (by omega)]; rfl
    rw [e]
    exact hca
  have hr4 : ∀ {wx : World}, Below w.heap.size w wx → Rd wx S (some ⟨g, o + 4, none⟩) ((b.drop 4).take 8) := fun hb => rd_take (rd_drop (k := 4) (hR.below hb)) 8
  have hl4 : ((b.drop 4).take 8).length = 8 := by rw [List.length_take, List.length_drop, hn]; rfl
  have H := Lib.hid (And.intro hR hn)
  have hgen : nuF ((b.drop 4).take 8) = genF b := rfl
  clear hR hn
  go_enter Tryz.func68, Tryz.ntmps68
  go_upto_region 1 with (fail)
  refine wp_region_held (S := fun wx => Below w.heap.size w wx) (by kernel_rfl) ?_
  obtain ⟨u0, hu0⟩ : ∃ u : World, u = { w with drawn := w.drawn + 1 } := ⟨_, rfl⟩
  have hS : Below w.heap.size w u0 := by rw [hu0]; exact (Below.refl _ w).drew
  rw [← hu0]
  clear hu0
  try simp only [Act.put]
  refine wpAnyH_take (i := 0) (oi := _) (v := (.slice (some ⟨g, o, none⟩) 64 c)) rfl (by kernel_rfl) (by kernel_rfl) (by kernel_rfl) (fun _ _ _ h => h) (.inl ⟨by kernel_rfl, (fun wq hq => rfl)⟩) hS ?_
  try simp only [List.getElem_toArray, List.getElem_cons_succ, List.getElem_cons_zero, Act.put, List.setIfInBounds_toArray, List.set_cons_zero, List.set_cons_succ]
  refine wpAnyH_take (i := 1) (oi := _) (v := (.slice (some ⟨g, o + 4, none⟩) 8 (c - 4))) rfl (by kernel_rfl) (by kernel_rfl) (by kernel_rfl) (fun _ _ _ h => h) (.inl ⟨by kernel_rfl, (fun wq hq => by go_simp)⟩) hS ?_
  try simp only [List.getElem_toArray, List.getElem_cons_succ, List.getElem_cons_zero, Act.put, List.setIfInBounds_toArray, List.set_cons_zero, List.set_cons_succ]
  refine wpAnyH_take (i := 3) (oi := _) (v := (.slice (some ⟨g, o, none⟩) 64 c)) rfl (by kernel_rfl) (by kernel_rfl) (by kernel_rfl) (fun _ _ _ h => h) (.inl ⟨by kernel_rfl, (fun wq hq => rfl)⟩) hS ?_
  try simp only [List.getElem_toArray, List.getElem_cons_succ, List.getElem_cons_zero, Act.put, List.setIfInBounds_toArray, List.set_cons_zero, List.set_cons_succ]
  refine wpAnyH_take (i := 4) (oi := _) (v := (.pointer (some ⟨g, o + 12, none⟩))) rfl (by kernel_rfl) (by kernel_rfl) (by kernel_rfl) (fun _ _ _ h => h) (.inl ⟨by kernel_rfl, (fun wq hq => by go_simp)⟩) hS ?_
  try simp only [List.getElem_toArray, List.getElem_cons_succ, List.getElem_cons_zero, Act.put, List.setIfInBounds_toArray, List.set_cons_zero, List.set_cons_succ]
  refine wpAnyH_take (i := 5) (oi := _) (v := (.int .u8 ((arF b).toNat : Int))) rfl (by kernel_rfl) (by kernel_rfl) (by kernel_rfl) (fun _ _ _ h => h) (.inl ⟨by kernel_rfl, (fun wq hq => by have c1 := hcell hq; go_simp)⟩) hS ?_
  try simp only [List.getElem_toArray, List.getElem_cons_succ, List.getElem_cons_zero, Act.put, List.setIfInBounds_toArray, List.set_cons_zero, List.set_cons_succ]
  refine wpAnyH_take (i := 6) (oi := _) (v := (.int .i64 ((arF b).toNat : Int))) rfl (by kernel_rfl) (by kernel_rfl) (by kernel_rfl) (fun _ _ _ h => h) (.inl ⟨by kernel_rfl, (fun wq hq => by have c1 := cv53 (arF b) wq; go_simp)⟩) hS ?_
  try simp only [List.getElem_toArray, List.getElem_cons_succ, List.getElem_cons_zero, Act.put, List.setIfInBounds_toArray, List.set_cons_zero, List.set_cons_succ]
  refine wpAnyH_all (rs := [2]) (by kernel_rfl) (by simp) ?_
  refine hAll1 rfl (fun K hC => ?_)
  go_simp
  go_wp2_with (go_at_call 110; apply Calls.mono; (· (with_reducible refine number_c S g (o + 4) 8 (c - 4) ((b.drop 4).take 8) _ ?_ ?_ ?_); (· exact hr4 hS); (· exact hl4); (· decide)); rintro e w1 ⟨rfl, hw⟩; rw [hw]; clear hw w1)
  try rw [hgen]
  refine hC.out _ _ hS ?_
  clear hC K
  try simp only [Act.put, List.setIfInBounds_toArray, List.set_cons_zero, List.set_cons_succ]
  refine wpAnyH_take (i := 7) (oi := _) (v := (D (genF b))) rfl (by kernel_rfl) (by kernel_rfl) (by kernel_rfl) (fun _ _ _ h => h) (.inl ⟨by kernel_rfl, (fun wq hq => rfl)⟩) hS ?_
  try simp only [List.getElem_toArray, List.getElem_cons_succ, List.getElem_cons_zero, Act.put, List.setIfInBounds_toArray, List.set_cons_zero, List.set_cons_succ]
  refine wpAnyH_take (i := 8) (oi := _) (v := (.int .i64 ((arF b).toNat : Int))) rfl (by kernel_rfl) (by kernel_rfl) (by kernel_rfl) (fun _ _ _ h => h) (.inl ⟨by kernel_rfl, (fun wq hq => rfl)⟩) hS ?_
  try simp only [List.getElem_toArray, List.getElem_cons_succ, List.getElem_cons_zero, Act.put, List.setIfInBounds_toArray, List.set_cons_zero, List.set_cons_succ]
  refine wpAnyH_done (by kernel_rfl) ?_ _
  have hofn : UInt8.ofNat (arF b).toNat = arF b := by simp
  by_cases hA : (arF b).toNat < 2
  · have kA : ((arF b).toNat : Int) < 2 := by omega
    have hok : okF b = decide (b = slotF (genF b) (arF b)) := by unfold okF; rw [decide_eq_true hA, Bool.true_and]
    have hsl : (slotF (genF b) (arF b)).length = 64 := by unfold slotF; rw [List.length_append, slotH_len, sumL_len]
    have HO := Lib.hid hok
    clear hok hgen hcell hr4 hl4
    go_wp2_with (first
      | (go_at_call 36; apply Calls.mono; (· (with_reducible refine slot_c (genF b) (arF b).toNat _ ?_); (· omega)); rintro e w2 ⟨p2, n2, c2, rfl, h2, x2, b2⟩; rw [hofn] at h2)
      | (go_at_call 111; apply Calls.mono; (· (with_reducible refine bytesEq_c S (fun k => owB p2 n2 c2 k) (some ⟨g, o, none⟩) p2 64 c n2 c2 b (slotF (genF b) (arF b)) _ ?_ ?_ ?_ ?_); (· exact H.out.1.below (hS.trans (b2.mono hS.size))); (· exact H.out.2); (· exact h2.rd); (· exact h2.len)); rintro e w3 ⟨rfl, hw⟩; rw [hw]; clear hw w3))
    have hSb := hS.trans (b2.mono hS.size)
    refine bodyPost_ret (v := .tuple #[D (genF b), .int .i64 ((arF b).toNat : Int), .bool (okF b)]) (results_ttt (P := Tryz.prog) 2 3 4 Tryz.results68 _ _ rfl rfl (by rw [HO.out]; rfl)) rfl ⟨rfl, hSb⟩
  · have kA : ¬ (((arF b).toNat : Int) < 2) := by omega
    have hok : okF b = false := by unfold okF; rw [decide_eq_false hA, Bool.false_and]
    have HO := Lib.hid hok
    clear hok hgen hcell hr4 hl4
    go_wp2
    refine bodyPost_ret (v := .tuple #[D (genF b), .int .i64 ((arF b).toNat : Int), .bool (okF b)]) (results_ttt (P := Tryz.prog) 2 3 4 Tryz.results68 _ _ rfl rfl (by rw [HO.out]; rfl)) rfl ⟨rfl, hS⟩
end Go.Proofs.YtolgaapiedbkfaaGreat
/-
  The contract of journal's newest. Condition: a disk with power, of four sectors at least.
-/
namespace Go.Kx
open Go.Proofs.YtolgaapiedbkfaaGreat
/-- What the slots tell, behind so many of them. -/
def nwS (L : List UInt8) : Nat → UInt64 × UInt8 × Bool
  | 0 => (0, 0, false)
  | i + 1 => if okF (secF L i) = true ∧ ((nwS L i).2.2 = false ∨ (nwS L i).1 < genF (secF L i)) then (genF (secF L i), arF (secF L i), true) else nwS L i
def nwF (L : List UInt8) : UInt64 × UInt8 × Bool := nwS L 2
end Go.Kx
namespace Go.Proofs.YtolgaapiedbkfaaGreat
open Go.RowKit Go.Kx
set_option linter.unusedVariables false
set_option linter.unusedSimpArgs false
set_option maxRecDepth 100000
theorem D_gtr {P : Program} {w : World} {t : TypeId} {x y : UInt64} : (binOp .gtr t (D x) (D y)).run P w = .ok (.bool (decide (y < x))) w := by
  show Sem.run P (pure (Value.bool (decide ((x.toNat : Int) > (y.toNat : Int))))) w = _
  rw [show decide ((x.toNat : Int) > (y.toNat : Int)) = decide (y < x) from decide_eq_decide.2 (by rw [UInt64.lt_iff_toNat_lt]; omega)]; rfl
theorem results_tttt {P : Program} {fn : Func} (t u v x : Tmp) (h : fn.results = #[.tmp t, .tmp u, .tmp v, .tmp x]) (tmps : Array Value) (w : World) {T U V X : Value} (h1 : tmps.getD t undef = T) (h2 : tmps.getD u undef = U) (h3 : tmps.getD v undef = V) (h4 : tmps.getD x undef = X) : (results fn tmps).run P w = .ok (.tuple #[T, U, V, X]) w := by
  subst h1 h2 h3 h4
  simp [results, h]
attribute [local go_sem ↓] D_gtr
def NwRel (w : World) (L : List UInt8) (v6 v7 v8 v15 : Value) (wr : World) : Prop := ∃ i : Nat, v15 = .int .i64 (i : Int) ∧ i ≤ 2 ∧ v6 = D (nwS L i).1 ∧ v7 = .int .i64 ((nwS L i).2.1.toNat : Int) ∧ v8 = .bool (nwS L i).2.2 ∧ Below w.heap.size w wr
/-- What newest tells. -/
def NwR (w : World) (L : List UInt8) (e : Ending) (w' : World) : Prop := e = .returned (.tuple #[D (nwF L).1, .int .i64 ((nwF L).2.1.toNat : Int), .bool (nwF L).2.2, .int .i64 0]) ∧ Below w.heap.size w w'
set_option maxHeartbeats 8000000 in
theorem newest_c (r g n k : Nat) (L : List UInt8) (w : World) (h : DiskI w r g n k L) (h4 : 4 ≤ n) : Calls Tryz.prog 34 #[rp r] w (NwR w L) := by
  have H := Lib.hid (And.intro h h4)
  have h0 : NwRel w L (.int .u64 0) (.int .i64 0) (.bool false) (.int .i64 0) w := ⟨0, rfl, by omega, rfl, rfl, rfl, Below.refl _ _⟩
  have H0 := Lib.hid h0
  clear h h0
  go_enter Tryz.func34, Tryz.ntmps34
  go_wp2
  go_loopw [6, 7, 8, 9, 10, 11, 12, 13, 14, 15, 45] (fun v6 v7 v8 v9 v10 v11 v12 v13 v14 v15 v45 wr => NwRel w L v6 v7 v8 v15 wr) (fun v6 v7 v8 v9 v10 v11 v12 v13 v14 v15 _ _ => (2 - intOf v15).toNat)
  case atStart => exact H0.out
  case round =>
    obtain ⟨i, rfl, hi, rfl, rfl, rfl, hB⟩ := hrel
    have hD := H.out.1.below hB
    by_cases hi2 : i < 2
    · have k1 : (i : Int) < 2 := by omega
      have hst : nwS L (i + 1) = if okF (secF L i) = true ∧ ((nwS L i).2.2 = false ∨ (nwS L i).1 < genF (secF L i)) then (genF (secF L i), arF (secF L i), true) else nwS L i := rfl
      generalize nwS L i = N0 at *
      obtain ⟨X, Y, Z⟩ := N0
      have hsl := secF_len L i n hD.l (by omega)
      have HH := Lib.hid (And.intro hst (And.intro hD (And.intro hB hsl)))
      clear hst hD hB hsl
      generalize hSE : secF L i = SE at *
      have HSE := Lib.hid hSE
      clear hSE
      go_upto_region 6 with (go_at_call 67; apply Calls.mono; (· refine dRead_c r g n k i L _ HH.out.2.1 (by omega)); rintro e w1 ⟨p1, n1, c1, rfl, h1, x1, b1⟩; rw [HSE.out] at h1)
      have hn1 := h1.len
      rw [HH.out.2.2.2] at hn1
      subst hn1
      obtain ⟨g1, rfl, _, _⟩ := h1.pos (by decide)
      have hc1 := h1.form.1
      have hb1 := HH.out.2.2.1.trans (b1.mono HH.out.2.2.1.size)
      clear b1 x1
      go_upto_region 9 with (go_at_call 68; apply Calls.mono; (· (with_reducible refine told_c (fun k => owB (some ⟨g1, 0, none⟩) 64 c1 k) g1 0 c1 SE _ ?_ ?_ ?_); (· exact h1.rd); (· exact HH.out.2.2.2); (· exact hc1)); rintro e w2 ⟨rfl, b2⟩)
      have hb2 := hb1.trans (b2.mono hb1.size)
      have hst := HH.out.1
      clear h1 hb1 b2 hc1 HH HSE
      generalize genF SE = G at *
      generalize arF SE = A at *
      generalize okF SE = OK at *
      have HST := Lib.hid hst
      clear hst
      cases OK with
      | false =>
        have hn : nwS L (i + 1) = (X, Y, Z) := by rw [HST.out, if_neg (by simp)]
        have HN := Lib.hid hn
        clear hn HST
        go_wp2
        refine ⟨⟨i + 1, by simp, by omega, by rw [HN.out], by rw [HN.out], by rw [HN.out], hb2⟩, by simp [intOf]; omega⟩
      | true =>
        cases Z with
        | false =>
          have hn : nwS L (i + 1) = (G, A, true) := by rw [HST.out, if_pos ⟨rfl, .inl rfl⟩]
          have HN := Lib.hid hn
          clear hn HST
          go_wp2
          refine ⟨⟨i + 1, by simp, by omega, by rw [HN.out], by rw [HN.out], by rw [HN.out], hb2⟩, by simp [intOf]; omega⟩
        | true =>
          by_cases hlt : X < G
          · have hd : decide (X < G) = true := decide_eq_true hlt
            have hn : nwS L (i + 1) = (G, A, true) := by rw [HST.out, if_pos ⟨rfl, .inr hlt⟩]
            have HN := Lib.hid hn
            clear hn HST hlt
            go_wp2
            refine ⟨⟨i + 1, by simp, by omega, by rw [HN.out], by rw [HN.out], by rw [HN.out], hb2⟩, by simp [intOf]; omega⟩
          · have hd : decide (X < G) = false := decide_eq_false hlt
            have hn : nwS L (i + 1) = (X, Y, true) := by rw [HST.out, if_neg (by rintro ⟨_, h⟩; rcases h with h | h; (· cases h); (· exact hlt h))]
            have HN := Lib.hid hn
            clear hn HST hlt
            go_wp2
            refine ⟨⟨i + 1, by simp, by omega, by rw [HN.out], by rw [HN.out], by rw [HN.out], hb2⟩, by simp [intOf]; omega⟩
    · obtain rfl : i = 2 := by omega
      have k1 : ¬ ((2 : Nat) : Int) < 2 := by omega
      have hF : nwS L 2 = nwF L := rfl
      rw [hF]
      generalize hNF : nwF L = NF at *
      have HNF := Lib.hid hNF
      clear hNF
      go_wp2
      refine bodyPost_ret (v := .tuple #[D NF.1, .int .i64 (NF.2.1.toNat : Int), .bool NF.2.2, .int .i64 0]) (results_tttt (P := Tryz.prog) 2 3 4 5 Tryz.results34 _ _ rfl rfl rfl rfl) rfl ⟨by rw [HNF.out], hB⟩
end Go.Proofs.YtolgaapiedbkfaaGreat
/-
  append onto a slice of a sum's array: within its thirty-two bytes in place, beyond them a new row. Conditions: those of each theorem.
-/
namespace Go.Proofs.YtolgaapiedbkfaaGreat
open Go.RowKit Go.Kx
set_option linter.unusedVariables false
set_option linter.unusedSimpArgs false
set_option maxRecDepth 100000
/-- The first bytes of a block of thirty-two. -/
def AB (w : World) (G t : Nat) (l : List UInt8) : Prop := ∃ S, ArrB w G t S ∧ S.length = 32 ∧ l.length ≤ 32 ∧ S.take l.length = l
theorem AB.rd {w : World} {G t : Nat} {l : List UInt8} (h : AB w G t l) : Rd w (· = G) (some ⟨G, 0, none⟩) l := by
  obtain ⟨S, h1, h2, h3, h4⟩ := h
  rw [← h4]
  exact rd_take (ArrB.rd h1) _
theorem AB.of {w : World} {G t : Nat} {S : List UInt8} (h : ArrB w G t S) (hS : S.length = 32) (k : Nat) (hk : k ≤ 32) : AB w G t (S.take k) := by
  have e : (S.take k).length = k := by rw [List.length_take]; omega
  exact ⟨S, h, hS, by omega, by rw [e]⟩
theorem AB.below {w w' : World} {G t : Nat} {l : List UInt8} (h : AB w G t l) (hb : Below w.heap.size w w') : AB w' G t l := by
  obtain ⟨S, h1, h2⟩ := h
  exact ⟨S, h1.below hb, h2⟩
theorem rd_cells {w : World} {S : Nat → Prop} {a : Addr} {l : List UInt8} (h : Rd w S (some a) l) : ∀ j u, (l.map B8)[j]? = some u → w.cell? (a.add j) = some u := by
  intro j v hv
  simp only [List.getElem?_map, Option.map_eq_some_iff] at hv
  obtain ⟨x, hx, rfl⟩ := hv
  obtain ⟨hj, rfl⟩ := List.getElem?_eq_some_iff.1 hx
  obtain ⟨a', ha', _, hc'⟩ := h j hj
  cases ha'
  exact hc'
theorem AB.lt {w : World} {G t : Nat} {l : List UInt8} (h : AB w G t l) : G < w.heap.size := by
  obtain ⟨S, h1, _⟩ := h
  exact h1.lt
theorem AB.app {w : World} {G t n : Nat} {l : List UInt8} (h : AB w G t l) (hn : l.length = n) (ty : TypeId) (T : Nat → Prop) (b : Addr) (m k : Nat) (l2 : List UInt8) (hm : l2.length = m) (hR2 : Rd w T (some b) l2) (hb : n + m ≤ 32) :
    ∃ w', (Builtin.append_ #[38, 38] ty #[.slice (some ⟨G, 0, none⟩) n 32, .slice (some b) m k]).run Tryz.prog w = .ok (.slice (some ⟨G, 0, none⟩) (n + m) 32) w' ∧ AB w' G t (l ++ l2) ∧ Only (· = G) w w' := by
  have hI := Tryz.info5
  obtain ⟨S, h1, h2, h3, h4⟩ := h
  cases hq : Tryz.prog.info? 5 with
  | none => rw [hq] at hI; cases hI
  | some i =>
    rw [hq] at hI
    simp only [Option.map_some, Option.some.injEq, Prod.mk.injEq] at hI
    obtain ⟨hz, hs, hby⟩ := hI
    have hst := run_storeCells_at Tryz.prog G n t (l2.map B8) 0 (S.map B8).toArray w h1 (by simp; omega) (ones8 _)
    have hfc := run_firstCells_some (P := Tryz.prog) w 1 m b m k (l2.map B8) (by simp; omega) (rd_cells hR2)
    refine ⟨w.setRow G ((splice S n l2).map B8).toArray, ?_, ⟨splice S n l2, h1.setRow _, ?_, by rw [List.length_append]; omega, ?_⟩, only_setRow' w G _⟩
    · simp only [Nat.add_zero] at hst
      have e : ((S.map B8).toArray.toList.take n ++ l2.map B8 ++ (S.map B8).toArray.toList.drop (n + (l2.map B8).length)).toArray = ((splice S n l2).map B8).toArray := by simp [splice]
      rw [e] at hst
      simp [Builtin.append_, run_underlying Tryz.underlying38, sizeOf, typeInfo, hq, hs, Builtin.lenOf, hb, Addr.add_lit]
      have hfc' := run_firstCells_some (P := Tryz.prog) w 1 m b m k (l2.map B8) (by simp; omega) (rd_cells hR2)
      rw [hfc']
      simp [Addr.add_lit, hst]
    · rw [length_splice _ _ _ (by omega)]; exact h2
    · rw [List.length_append, hn, hm]
      unfold splice
      rw [← h4, hn]
      rw [hm]
      have e1 : (S.take n).length = n := by rw [List.length_take]; omega
      rw [← List.append_assoc]
      have e2 : (S.take n ++ l2).length = n + m := by rw [List.length_append, e1, hm]
      exact List.take_left' e2
theorem rd_grow {w : World} {a : Addr} {n c : Nat} {l : List UInt8} {S : Nat → Prop} (hR : Rd w S (some a) l) (hn : l.length = n) (ty : TypeId) (T : Nat → Prop) (b : Addr) (m k : Nat) (l2 : List UInt8) (hm : l2.length = m) (hg : c < n + m) (hR2 : Rd w T (some b) l2) (hb : n + m ≤ 1000000) :
    ∃ p' n' c' w', (Builtin.append_ #[38, 38] ty #[.slice (some a) n c, .slice (some b) m k]).run Tryz.prog w = .ok (.slice p' n' c') w' ∧ OB w' p' n' c' (l ++ l2) ∧ (∀ j, owB p' n' c' j → j = w.heap.size) ∧ Only (fun _ => False) w w' := by
  have hI := Tryz.info5
  cases hq : Tryz.prog.info? 5 with
  | none => rw [hq] at hI; cases hI
  | some i =>
    rw [hq] at hI
    simp only [Option.map_some, Option.some.injEq, Prod.mk.injEq] at hI
    obtain ⟨hz, hs, hby⟩ := hI
    have hr := run_append_grow (P := Tryz.prog) w 38 ty 5 i (.int .u8 0) Tryz.underlying38 hq hz a n c (l.map B8) (by rw [hs]; simp; omega) (rd_cells hR) b m k (l2.map B8) (by rw [hs]; simp; omega) (rd_cells hR2) hg (by omega) (growslice_fits hg (by rw [hby]; omega))
    have hge := grownCap_ge w (n + m) c 5
    have hcm : grownCap w (n + m) c 5 ≤ maxLen := grownCap_le_maxLen w (n + m) c 5 (by unfold maxLen; omega)
    refine ⟨_, _, _, _, hr, ⟨⟨by simp; omega, .inr ⟨w.heap.size, _, _, rfl, Nat.zero_le _, heap_alloc_new w.drew _, hge, hcm, ?_, ?_⟩⟩, by simp; omega⟩, fun j hj => ?_, Only.of_below (((Below.refl _ w).drew).alloc (Nat.le_refl _) _)⟩
    · simp [size_zeroCells, Value.cells]
      omega
    · simp only [Array.toList_append, List.toList_toArray, List.map_append, List.append_assoc]
      rw [← List.append_assoc, List.take_left' (by simp; omega)]
    · cases hj
      rfl
theorem rd_app0 {w : World} {a : Addr} {n c m : Nat} {l : List UInt8} {S : Nat → Prop} (hR : Rd w S (some a) l) (hn : l.length = n) (ty : TypeId) (h0 : 0 < m) (hg : c < n + m) (hm : m ≤ 1000000) (hl : n ≤ 1000000) :
    ∃ p' n' c' w', (Builtin.append_ #[38, 3] ty #[.slice (some a) n c, .int .i64 (m : Int)]).run Tryz.prog w = .ok (.slice p' n' c') w' ∧ OB w' p' n' c' (l ++ List.replicate m 0) ∧ (∀ j, owB p' n' c' j → j = w.heap.size) ∧ Only (fun _ => False) w w' := by
  have holds := rd_cells hR
  have hd : ∀ j u, (l.map B8)[j]? = some u → w.drew.cell? (a.add j) = some u := holds
  have olds := run_firstCells_some (P := Tryz.prog) w.drew 1 n a n c (l.map B8) (by simp; omega) hd
  have hr := run_app0_grow w ty (some a) n c m (l.map B8) olds h0 hm hg hl
  have hge := grownCap_ge w (n + m) c 5
  have hcm : grownCap w (n + m) c 5 ≤ maxLen := grownCap_le_maxLen w (n + m) c 5 (by unfold maxLen; omega)
  have hmap : (l ++ List.replicate m 0).map B8 = l.map B8 ++ (List.replicate m (0 : UInt8)).map B8 := List.map_append ..
  refine ⟨_, _, _, _, hr, ⟨⟨by simp; omega, .inr ⟨w.heap.size, _, _, rfl, Nat.zero_le _, heap_alloc_new w.drew _, hge, hcm, ?_, ?_⟩⟩, by simp; omega⟩, fun j hj => ?_, Only.of_below (((Below.refl _ w).drew).alloc (Nat.le_refl _) _)⟩
  · simp [size_zeroCells]
    omega
  · rw [hmap]
    simp only [Array.toList_append, List.toList_toArray]
    rw [List.take_left' (by simp; omega)]
  · cases hj
    rfl
theorem wpList_ab {w : World} {ops : Array Oper} {rest : List Oper} {o : Oper} {act : Act} {Q : Exit → Act → World → Prop} (hgd : o.guard = none) (s x : Operand)
    (ho : (o.op, o.type) = (.call { callee := .builtin .append, args := #[s, x], argTypes := #[38, 38] }, 38)) {G t n : Nat} {l : List UInt8} (h : AB w G t l) (hs : act.eval s = .slice (some ⟨G, 0, none⟩) n 32) (hn : l.length = n)
    (T : Nat → Prop) (b : Addr) (m k : Nat) (l2 : List UInt8) (hx : act.eval x = .slice (some b) m k) (hm : l2.length = m) (hR : Rd w T (some b) l2) (hb : n + m ≤ 32)
    (hK : ∀ w', AB w' G t (l ++ l2) → Only (· = G) w w' → wpList Tryz.prog ops Q rest (act.put o.dst (.slice (some ⟨G, 0, none⟩) (n + m) 32)) w') : wpList Tryz.prog ops Q (o :: rest) act w := by
  injection ho with e1 e2
  obtain ⟨w', hr, h1, h2⟩ := h.app hn o.type T b m k l2 hm hR hb
  exact wpList_plain hgd fun K hK' => wp_append_run w s x 38 e1 _ _ hs hx hr (hK' _ _ (hK w' h1 h2))
theorem wpList_grow {w : World} {ops : Array Oper} {rest : List Oper} {o : Oper} {act : Act} {Q : Exit → Act → World → Prop} (hgd : o.guard = none) (s x : Operand)
    (ho : (o.op, o.type) = (.call { callee := .builtin .append, args := #[s, x], argTypes := #[38, 38] }, 38)) {a : Addr} {n c : Nat} {l : List UInt8} {S : Nat → Prop} (h : Rd w S (some a) l) (hs : act.eval s = .slice (some a) n c) (hn : l.length = n)
    (T : Nat → Prop) (b : Addr) (m k : Nat) (l2 : List UInt8) (hx : act.eval x = .slice (some b) m k) (hm : l2.length = m) (h0 : c < n + m) (hR : Rd w T (some b) l2) (hb : n + m ≤ 1000000)
    (hK : ∀ p' n' c' w', OB w' p' n' c' (l ++ l2) → (∀ j, owB p' n' c' j → j = w.heap.size) → Only (fun _ => False) w w' → wpList Tryz.prog ops Q rest (act.put o.dst (.slice p' n' c')) w') : wpList Tryz.prog ops Q (o :: rest) act w := by
  injection ho with e1 e2
  obtain ⟨p', n', c', w', hr, h1, h2, h3⟩ := rd_grow h hn o.type T b m k l2 hm h0 hR hb
  exact wpList_plain hgd fun K hK' => wp_append_run w s x 38 e1 _ _ hs hx hr (hK' _ _ (hK p' n' c' w' h1 h2 h3))
theorem wpList_rd0 {w : World} {ops : Array Oper} {rest : List Oper} {o : Oper} {act : Act} {Q : Exit → Act → World → Prop} (hgd : o.guard = none) (s x : Operand)
    (ho : (o.op, o.type) = (.call { callee := .builtin .append, args := #[s, x], argTypes := #[38, 3] }, 38)) {a : Addr} {n c m : Nat} {l : List UInt8} {S : Nat → Prop} (h : Rd w S (some a) l) (hs : act.eval s = .slice (some a) n c) (hn : l.length = n)
    (hx : act.eval x = .int .i64 (m : Int)) (h0 : 0 < m) (hg : c < n + m) (hm : m ≤ 1000000) (hl : n ≤ 1000000)
    (hK : ∀ p' n' c' w', OB w' p' n' c' (l ++ List.replicate m 0) → (∀ j, owB p' n' c' j → j = w.heap.size) → Only (fun _ => False) w w' → wpList Tryz.prog ops Q rest (act.put o.dst (.slice p' n' c')) w') : wpList Tryz.prog ops Q (o :: rest) act w := by
  injection ho with e1 e2
  obtain ⟨p', n', c', w', hr, h1, h2, h3⟩ := rd_app0 h hn o.type h0 hg hm hl
  refine wpList_plain hgd fun K hK' => ?_
  unfold Oper.wp
  simp [execOp, e1, resolve, invoke, builtin, hs, hx, hr, Result.andThen]
  exact hK' _ _ (hK p' n' c' w' h1 h2 h3)
end Go.Proofs.YtolgaapiedbkfaaGreat
/-
  The contract of journal's big onto a sum's array. Condition: it holds them.
-/
namespace Go.Proofs.YtolgaapiedbkfaaGreat
open Go.RowKit Go.Kx
set_option linter.unusedVariables false
set_option linter.unusedSimpArgs false
set_option maxRecDepth 100000
attribute [local go_sem ↓] D_add D_mul D_xor D_or D_and D_not D_sub D_lss D_eql D_neq
attribute [local go_sem ↓] D_guard1 D_guard2
attribute [local go_sem ↓] exec_stD
attribute [local go_sem] D_cells D_one D_store st1_D st1_i
attribute [local go_sem ↓] D_shl D_shr
def BaRel (G t n : Nat) (w : World) (l : List UInt8) (x : UInt64) (s : Nat) (v v7 : Value) (wr : World) : Prop := ∃ dn, ∃ k m : Nat, v = .slice (some ⟨G, 0, none⟩) m 32 ∧ m + k = n + s ∧ n ≤ m ∧ v7 = .int .i64 ((k : Int) - 1) ∧ AB wr G t (l ++ dn) ∧ (l ++ dn).length = m ∧ dn ++ bgK x k = bgK x s ∧ Only (· = G) w wr
def BaR (w : World) (G t n : Nat) (l : List UInt8) (e : Ending) (w' : World) : Prop := e = .returned (.slice (some ⟨G, 0, none⟩) n 32) ∧ AB w' G t l ∧ Only (· = G) w w'
set_option maxHeartbeats 4000000 in
theorem big_ab (G t n : Nat) (l : List UInt8) (x : UInt64) (s : Nat) (w : World) (h : AB w G t l) (hn : l.length = n) (hs : n + s ≤ 32) (hs8 : s ≤ 8) :
    Calls Tryz.prog 70 #[.slice (some ⟨G, 0, none⟩) n 32, D x, .int .i64 (s : Int)] w (BaR w G t (n + s) (l ++ bgK x s)) := by
  have h0 : BaRel G t n w l x s (.slice (some ⟨G, 0, none⟩) n 32) (.int .i64 ((s : Int) - 1)) w := ⟨[], s, n, rfl, rfl, Nat.le_refl _, rfl, by simpa using h, by simpa using hn, rfl, Only.refl _ _⟩
  have H0 := Lib.hid h0
  have H := Lib.hid (And.intro h.lt hn)
  clear h h0 hn
  have cv2 := cvD8
  have k0 : wrap64 ((s : Int) - 1) = (s : Int) - 1 := IntWalk.wrap64_in _ ⟨by omega, by omega⟩
  go_enter Tryz.func70, Tryz.ntmps70
  go_wp2
  go_loopw [0, 7] (fun v v7 wr => BaRel G t n w l x s v v7 wr) (fun _ v7 _ => (intOf v7 + 1).toNat)
  case atStart => exact H0.out
  case round =>
    obtain ⟨dn, k, m, rfl, hmk, hnm, rfl, hA, hml, hdn, hO⟩ := hrel
    have HO := Lib.hid (And.intro hA (And.intro hml (And.intro hdn (And.intro hO (And.intro hmk hnm)))))
    clear hA hml hdn hO
    cases k with
    | zero =>
      have k1 : ¬ ((0 : Int) ≤ ((0 : Nat) : Int) - 1) := by omega
      clear hmk hnm
      go_wp2
      go_ret
      have e : m = n + s := by have := HO.out.2.2.2.2.1; omega
      refine ⟨by rw [e]; rfl, ?_, HO.out.2.2.2.1⟩
      have h := HO.out.1
      have e := HO.out.2.2.1
      simp only [bgK, List.append_nil] at e
      rwa [e] at h
    | succ i =>
      have e1 : (((i + 1 : Nat) : Int) - 1) = (i : Int) := by omega
      rw [e1]
      have hi8 : i ≤ 8 := by omega
      have hm32 : m + 1 ≤ 32 := by omega
      have k1 : (0 : Int) ≤ (i : Int) := by omega
      have k2 : IntKind.i64.wrap (8 * (i : Int)) = 8 * (i : Int) := IntWalk.i64_in _ (by omega)
      have k2' : wrap64 (8 * (i : Int)) = 8 * (i : Int) := IntWalk.wrap64_in _ ⟨by omega, by omega⟩
      have k3 : wrap64 ((i : Int) - 1) = (i : Int) - 1 := IntWalk.wrap64_in _ ⟨by omega, by omega⟩
      have hsh : ∀ wx, (binOp .shr 35 (D x) (.int .i64 (8 * (i : Int)))).run Tryz.prog wx = .ok (D (shr64 x (8 * i))) wx := fun wx => by
        have h := D_shr (P := Tryz.prog) (w := wx) (t := 35) (x := x) .i64 (8 * (i : Int)) (by omega)
        rwa [show (8 * (i : Int)).toNat = 8 * i by omega] at h
      have hrd : Rd (wr.alloc (.cells #[.int .u8 ((cut8 (shr64 x (8 * i))).toNat : Int)] 5)) (· = wr.heap.size) (some ⟨wr.heap.size, 0, none⟩) [cut8 (shr64 x (8 * i))] := Rd.lit wr [cut8 (shr64 x (8 * i))]
      generalize hZ : cut8 (shr64 x (8 * i)) = Z at *
      clear e1 hmk hnm
      go_wp2_with (at_builtin; refine wpList_ab rfl _ _ rfl (HO.out.1.below ((Below.refl _ _).alloc (Nat.le_refl _) _)) rfl HO.out.2.1 (· = wr.heap.size) ⟨wr.heap.size, 0, none⟩ 1 1 [Z] rfl rfl hrd hm32 ?_; intro w3 h1 h3)
      refine ⟨⟨dn ++ [Z], i, m + 1, rfl, by have := HO.out.2.2.2.2.1; omega, by have := HO.out.2.2.2.2.2; omega, rfl, by rw [← List.append_assoc]; exact h1, by rw [← List.append_assoc, List.length_append, HO.out.2.1]; rfl, ?_, (HO.out.2.2.2.1.alloc _).then (h3.mono (fun _ _ e => e))⟩, by simp [intOf]⟩
      have e := HO.out.2.2.1
      rw [bgK, hZ] at e
      rw [List.append_assoc]
      exact e
end Go.Proofs.YtolgaapiedbkfaaGreat
/-
  The contract of journal's sectors. Condition: bytes that leave noughts behind them.
-/
namespace Go.Kx
open Go.Proofs.YtolgaapiedbkfaaGreat
def secsH (gen : UInt64) (num : Nat) (b : List UInt8) : List UInt8 := (markS gen num b).take 16 ++ bgK (UInt64.ofNat b.length) 2 ++ b
/-- An entry's sectors, side by side. -/
def secsF (gen : UInt64) (num : Nat) (b : List UInt8) : List UInt8 := secsH gen num b ++ List.replicate (needF b.length * 64 - (18 + b.length)) 0
theorem markS_len (gen : UInt64) (num : Nat) (b : List UInt8) : (markS gen num b).length = 32 := sumL_len _
theorem secsH_len (gen : UInt64) (num : Nat) (b : List UInt8) : (secsH gen num b).length = 18 + b.length := by simp [secsH, bgK_len, markS_len]; omega
theorem secsF_len (gen : UInt64) (num : Nat) (b : List UInt8) : (secsF gen num b).length = 64 * needF b.length := by
  rw [secsF, List.length_append, secsH_len, List.length_replicate]; unfold needF; omega
end Go.Kx
namespace Go.Proofs.YtolgaapiedbkfaaGreat
open Go.RowKit Go.Kx
set_option linter.unusedVariables false
set_option linter.unusedSimpArgs false
set_option maxRecDepth 100000
theorem big_ab2 (G t : Nat) (l : List UInt8) (x : UInt64) (w : World) (h : AB w G t l) (hn : l.length = 16) :
    Calls Tryz.prog 70 #[.slice (some ⟨G, 0, none⟩) 16 32, D x, .int .i64 2] w (BaR w G t 18 (l ++ bgK x 2)) := big_ab G t 16 l x 2 w h hn (by decide) (by decide)
set_option maxHeartbeats 4000000 in
theorem sectors_c (gen : UInt64) (num : Nat) (T : Nat → Prop) (q : Addr) (m k : Nat) (b : List UInt8) (w : World) (hR : Rd w T (some q) b) (hm : b.length = m) (h1 : 1 ≤ m) (hl : m ≤ 10000) (h46 : (18 + m) % 64 ≠ 0) (hnum : num ≤ 1000000) :
    Calls Tryz.prog 129 #[D gen, .int .i64 (num : Int), .slice (some q) m k] w (NewOB w (secsF gen num b)) := by
  have cv2 := cv35 m (by omega)
  have H := Lib.hid (And.intro hR (And.intro hm (And.intro h1 (And.intro hl (And.intro h46 hnum)))))
  have k1 : IntKind.i64.wrap (((needF m : Nat) : Int) * 64) = ((needF m * 64 : Nat) : Int) := by rw [IntWalk.i64_in _ (by unfold needF; omega)]; omega
  have k2 : wrap64 (((needF m : Nat) : Int) * 64 - (18 + (m : Int))) = ((needF m * 64 - (18 + m) : Nat) : Int) := by rw [IntWalk.wrap64_in _ ⟨by unfold needF; omega, by unfold needF; omega⟩]; unfold needF; omega
  have hp : 0 < needF m * 64 - (18 + m) ∧ needF m * 64 - (18 + m) ≤ 64 ∧ 64 ≤ needF m * 64 := by unfold needF; omega
  have hF : secsF gen num b = (markS gen num b).take 16 ++ bgK (UInt64.ofNat m) 2 ++ b ++ List.replicate (needF m * 64 - (18 + m)) 0 := by unfold secsF secsH; rw [hm]
  have HF := Lib.hid (And.intro hF hp)
  clear hR hm hF hp
  go_enter Tryz.func129, Tryz.ntmps129
  go_upto_region 1 with (fail)
  go_upto_region 2 with (first
    | (go_at_call 115; apply Calls.mono; (· (with_reducible refine mark_c gen num T (some q) m k b _ ?_ ?_ ?_ ?_ ?_); (· exact H.out.1); (· intro e; cases e); (· exact H.out.2.1); (· have := H.out.2.2.2.1; omega); (· exact H.out.2.2.2.2.2)); rintro e w1 ⟨G, rfl, hA1, hG1, b1⟩; have hab := AB.of hA1 (markS_len gen num b) 16 (by decide))
    | (go_at_call 70; apply Calls.mono; (· (with_reducible refine big_ab2 G 29 ((markS gen num b).take 16) (UInt64.ofNat m) _ ?_ ?_); (· exact hab); (· rw [List.length_take, markS_len]; rfl)); rintro e w2 ⟨rfl, hab2, hO2⟩))
  have hb2 : Below w.heap.size w w2 := below_only b1 b1.size hO2 (fun k hk e => by omega)
  have hl2 : ((markS gen num b).take 16 ++ bgK (UInt64.ofNat m) 2).length = 18 := by rw [List.length_append, bgK_len, List.length_take, markS_len]; rfl
  generalize (markS gen num b).take 16 ++ bgK (UInt64.ofNat m) 2 = X at *
  have hr2 := H.out.1.below hb2
  have HX := Lib.hid (And.intro hab2 (And.intro hb2 (And.intro hl2 (And.intro hr2 hG1))))
  clear hab2 hb2 hO2 hA1 b1 hab hl2 hr2 hG1
  by_cases h14 : m ≤ 14
  · have hm32 : 18 + m ≤ 32 := by omega
    go_upto_region 3 with (refine wpList_ab rfl _ _ rfl HX.out.1 rfl HX.out.2.2.1 T q m k b rfl H.out.2.1 HX.out.2.2.2.1 hm32 ?_; intro w3 h3 hO3)
    have hb3 : Below w.heap.size w w3 := below_only HX.out.2.1 HX.out.2.1.size hO3 (fun k hk e => by have := HX.out.2.2.2.2; omega)
    have hl3 : (X ++ b).length = 18 + m := by rw [List.length_append, HX.out.2.2.1, H.out.2.1]
    have HY := Lib.hid (And.intro h3 (And.intro hb3 hl3))
    clear h3 hb3 hl3 hO3
    have hn64 := HF.out.2.2.2
    have hn1 := HF.out.2.1
    generalize hNZ : needF m * 64 - (18 + m) = NZ at *
    have hcap : 32 < 18 + m + NZ ∧ NZ ≤ 1000000 ∧ 18 + m ≤ 1000000 ∧ (X ++ b).length ≤ 1000000 := ⟨by omega, by have := HF.out.2.2.1; omega, by omega, by rw [HY.out.2.2]; omega⟩
    have HC := Lib.hid hcap
    clear hcap
    go_wp2_with (first
      | (go_at_call 73; apply Calls.mono; (· (with_reducible refine need_c m _ ?_); (· have := H.out.2.2.2.1; omega)); rintro e w4 ⟨rfl, hw4⟩; rw [hw4]; clear hw4 w4)
      | (at_builtin; refine wpList_rd0 (m := NZ) rfl _ _ rfl HY.out.1.rd rfl HY.out.2.2 (congrArg (Value.int IntKind.i64) k2) HF.out.2.1 HC.out.1 HC.out.2.1 HC.out.2.2.1 ?_; intro p5 n5 c5 w5 h5 x5 hO5))
    go_ret
    exact ⟨p5, n5, c5, rfl, by rw [HF.out.1]; exact h5, fun j hj => by have := x5 j hj; have := HY.out.2.1.size; omega, below_only HY.out.2.1 HY.out.2.1.size hO5 (fun k hk e => e)⟩
  · have hm32 : 32 < 18 + m := by omega
    go_upto_region 3 with (refine wpList_grow rfl _ _ rfl HX.out.1.rd rfl HX.out.2.2.1 T q m k b rfl H.out.2.1 hm32 HX.out.2.2.2.1 (by omega) ?_; intro p3 n3 c3 w3 h3 x3 hO3)
    have hb3 : Below w.heap.size w w3 := below_only HX.out.2.1 HX.out.2.1.size hO3 (fun k hk e => e)
    have hl3 : (X ++ b).length = 18 + m := by rw [List.length_append, HX.out.2.2.1, H.out.2.1]
    have hn3 := h3.len
    rw [hl3] at hn3
    subst hn3
    have hx3 : ∀ j, owB p3 (18 + m) c3 j → w.heap.size ≤ j := fun j hj => by have := x3 j hj; have := HX.out.2.1.size; omega
    have HY := Lib.hid (And.intro h3 (And.intro hb3 (And.intro hl3 hx3)))
    clear h3 hb3 hl3 hO3 hx3 x3
    have hn64 := HF.out.2.2.2
    have hn1 := HF.out.2.1
    generalize hNZ : needF m * 64 - (18 + m) = NZ at *
    have hcap : 32 < 18 + m + NZ ∧ NZ ≤ 1000000 ∧ 18 + m ≤ 1000000 ∧ (X ++ b).length ≤ 1000000 := ⟨by omega, by have := HF.out.2.2.1; omega, by omega, by rw [HY.out.2.2.1]; omega⟩
    have HC := Lib.hid hcap
    clear hcap
    go_wp2_with (first
      | (go_at_call 73; apply Calls.mono; (· (with_reducible refine need_c m _ ?_); (· have := H.out.2.2.2.1; omega)); rintro e w4 ⟨rfl, hw4⟩; rw [hw4]; clear hw4 w4)
      | (at_builtin; refine wpList_app0 (m := NZ) rfl _ _ rfl HY.out.1 rfl (congrArg (Value.int IntKind.i64) k2) HF.out.2.1 HC.out.2.1 HC.out.2.2.2 ?_; intro p5 n5 c5 w5 h5 x5 hO5))
    go_ret
    exact ⟨p5, n5, c5, rfl, by rw [HF.out.1]; exact h5, fun j hj => by rcases x5 j hj with h | h; (· exact HY.out.2.2.2 j h); (· have := HY.out.2.1.size; omega), below_only HY.out.2.1 HY.out.2.1.size hO5 (fun k hk e => by have := HY.out.2.2.2 k e; omega)⟩
end Go.Proofs.YtolgaapiedbkfaaGreat
