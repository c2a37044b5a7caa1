/-
  The contracts of poly's little, part (of sixteen bytes) and reduced. Conditions: those of each.
-/
import Derived.Test.YtolgaapiedbkfaaGreatZg4
import Derived.Test.YtolgaapiedbkfaaGreatZPolB
import Derived.Test.YtolgaapiedbkfaaGreatZg2
import Derived.RangeFuncNested
import Derived.RangeFuncBound
import Derived.RangeFuncCalls
import Derived.RangeFuncLeaves
import Derived.RangeFuncBox
import Derived.Shelf.Abstract
import Derived.Shelf.RegionOpen
import Derived.WalkKit
import Derived.OwnWalkIn
import Derived.TacticsInMore
import Derived.LoopNIn
import Derived.LoopIn
import Derived.Sort.BigQuietIn
import Derived.Test.YtolgaapiedbkfaaGreatZg1
import Derived.Test.YtolgaapiedbkfaaGreatZg3
import Derived.Maps.AppendAt
namespace Go.Kx
open Go.Proofs.YtolgaapiedbkfaaGreat
/-- A number of sixteen bytes, with a 1 behind. -/
def partF (b : List UInt8) : N3 := ⟨litF b, litF (b.drop 8), 1⟩
def redS (h : N3) : N3 := plusF ⟨h.a, h.b, h.c &&& 3⟩ ⟨5 * shr64 h.c 2, 0, 0⟩
def redK (h : N3) : Nat → N3
  | 0 => h
  | i + 1 => redS (redK h i)
def redF (h : N3) : N3 := if shr64 (plusF (redK h 2) ⟨5, 0, 0⟩).c 2 = 0 then redK h 2 else ⟨(plusF (redK h 2) ⟨5, 0, 0⟩).a, (plusF (redK h 2) ⟨5, 0, 0⟩).b, (plusF (redK h 2) ⟨5, 0, 0⟩).c &&& 3⟩
end Go.Kx
namespace Go.Proofs.YtolgaapiedbkfaaGreat
open Go.RowKit Go.Kx
set_option linter.unusedVariables false
set_option linter.unusedSimpArgs false
set_option maxRecDepth 100000
attribute [local go_sem ↓] D_add D_mul D_xor D_or D_and D_not D_sub D_lss D_eql D_neq
attribute [local go_sem ↓] D_guard1 D_guard2
attribute [local go_sem ↓] exec_stD
attribute [local go_sem] D_cells D_one D_store st1_D st1_i
attribute [local go_sem ↓] D_shl D_shr
theorem cvB64 (x : UInt8) (w : World) : (convert 5 35 (.int .u8 (x.toNat : Int))).run Tryz.prog w = .ok (D x.toUInt64) w := by
  have hk : Tryz.prog.intKind 35 = .u64 := by kernel_rfl
  have h2 := run_convert_int (P := Tryz.prog) (w := w) 5 35 .u8 (x.toNat : Int) (by rw [Tryz.underlying5]; rfl) (by rw [hk]; exact Tryz.underlying35)
  have h : IntKind.u64.wrap (x.toNat : Int) = (x.toUInt64.toNat : Int) := by
    have h8 := x.toNat_lt
    rw [wrap_u64, UInt8.toNat_toUInt64, Nat.mod_eq_of_lt (by omega)]
  rw [hk, h] at h2
  exact h2
set_option maxHeartbeats 4000000 in
theorem little_c (S : Nat → Prop) (g o n c : Nat) (b : List UInt8) (w : World) (hR : Rd w S (some ⟨g, o, none⟩) b) (hn : b.length = n) (hnc : n ≤ c) (hcm : n ≤ 1000000) :
    Calls Tryz.prog 163 #[.slice (some ⟨g, o, none⟩) n c] w fun e w' => e = .returned (D (litF b)) ∧ w' = w := by
  have HR := Lib.hid (And.intro hR hn)
  clear hR hn
  have hk : ∃ k : Nat, (if (8 : Int) < (n : Int) then (8 : Int) else (n : Int)) = (k : Int) ∧ k = min n 8 := by
    by_cases h8 : (8 : Int) < (n : Int)
    · exact ⟨8, if_pos h8, by omega⟩
    · exact ⟨n, if_neg h8, by omega⟩
  obtain ⟨k, hk0, hk1⟩ := hk
  have hkn : (k : Int) ≤ (n : Int) := by omega
  have HK := Lib.hid hk1
  have hkk : k ≤ n ∧ k ≤ 8 := by omega
  clear hk1
  have cv := cvB64
  go_enter Tryz.func163, Tryz.ntmps163
  go_wp2
  go_loopw [3, 12] (fun v3 v12 wr => ∃ i : Nat, v12 = .int .i64 (i : Int) ∧ v3 = D (litK b i) ∧ i ≤ k ∧ wr = w) (fun v3 v12 _ => (k - (intOf v12).toNat))
  case atStart => exact ⟨0, rfl, rfl, by omega, rfl⟩
  case round =>
    obtain ⟨i, rfl, rfl, hi, hwr⟩ := hrel
    subst hwr
    by_cases hik : i < k
    · have hil : i < b.length := by rw [HR.out.2]; omega
      obtain ⟨a, ha, _, hca⟩ := HR.out.1 i hil
      cases ha
      have hadd : (⟨g, o, none⟩ : Addr).add i = ⟨g, o + i, none⟩ := by unfold Addr.add; split <;> simp_all
      rw [hadd] at hca
      obtain ⟨B, hBd⟩ : ∃ B : UInt8, B = b[i]'hil := ⟨_, rfl⟩
      rw [← hBd] at hca
      have hca' : wr.cell? ⟨g, o + i, none⟩ = some (.int .u8 (B.toNat : Int)) := hca
      have hst : litK b (i + 1) = litK b i ||| shl64 B.toUInt64 (8 * i) := by
        rw [litK, List.getD_eq_getElem?_getD, List.getElem?_eq_getElem hil, ← hBd]
        rfl
      have HST := Lib.hid hst
      have k1 : (i : Int) < (k : Int) := by omega
      have k2 : IntKind.i64.wrap (8 * (i : Int)) = 8 * (i : Int) := IntWalk.i64_in _ (by omega)
      have hsh : ∀ wx, (binOp .shl 35 (D B.toUInt64) (.int .i64 (8 * (i : Int)))).run Tryz.prog wx = .ok (D (shl64 B.toUInt64 (8 * i))) wx := fun wx => by
        have h := D_shl (P := Tryz.prog) (w := wx) (t := 35) (x := B.toUInt64) .i64 (8 * (i : Int)) (by omega)
        rwa [show (8 * (i : Int)).toNat = 8 * i by omega] at h
      clear hca hst hBd hadd hil
      go_wp2
      refine ⟨⟨i + 1, by simp, by rw [HST.out], by omega, trivial⟩, by simp [intOf]; omega⟩
    · have k1 : ¬ (i : Int) < (k : Int) := by omega
      have hX : litK b i = litF b := by unfold litF; rw [HR.out.2, ← HK.out]; rw [show i = k by omega]
      rw [hX]
      clear hX
      go_wp2
      go_ret
      exact ⟨rfl, rfl⟩
theorem D_guard2l (t : TypeId) (x y : Operand) (a : UInt64) (b : Int) : eqGuard .neq t x y (D a) (.int .u64 b) = pure () := rfl
theorem ArrN.set1 {w : World} {r : Nat} {h : N3} (k : ArrN w r h) (x : UInt64) : ArrN (w.setCell ⟨r, 1, none⟩ (D x)) r ⟨h.a, x, h.c⟩ := by
  unfold ArrN at *; simp [World.setCell, Array.getElem?_modify, k, n3V]
theorem ArrN.set2 {w : World} {r : Nat} {h : N3} (k : ArrN w r h) (x : UInt64) : ArrN (w.setCell ⟨r, 2, none⟩ (D x)) r ⟨h.a, h.b, x⟩ := by
  unfold ArrN at *; simp [World.setCell, Array.getElem?_modify, k, n3V]
set_option maxHeartbeats 4000000 in
theorem part_c (S : Nat → Prop) (g o c : Nat) (b : List UInt8) (w : World) (hR : Rd w S (some ⟨g, o, none⟩) b) (hn : b.length = 16) (hnc : 16 ≤ c) :
    Calls Tryz.prog 165 #[.slice (some ⟨g, o, none⟩) 16 c] w (BackR w (.agg (n3V (partF b)))) := by
  have HR := Lib.hid (And.intro hR hn)
  clear hR hn
  have hnc2 : (16 : Int) ≤ (c : Int) := by omega
  have hc8 : ¬ ((c : Int) < 8) := by omega
  go_enter Tryz.func165, Tryz.ntmps165
  go_upto_region 1 with (fail)
  have hI : ArrN (w.alloc (.cells #[.int .u64 0, .int .u64 0, .int .u64 0] 256)) w.heap.size ⟨0, 0, 0⟩ ∧ Below w.heap.size w (w.alloc (.cells #[.int .u64 0, .int .u64 0, .int .u64 0] 256)) := ⟨ArrN.new w ⟨0, 0, 0⟩, (Below.refl _ w).alloc (Nat.le_refl _) _⟩
  refine wp_world (fun W => ArrN W w.heap.size ⟨0, 0, 0⟩ ∧ Below w.heap.size w W) hI ?_
  clear hI
  intro W hI
  have HI := Lib.hid hI
  clear hI
  have hr1 := HR.out.1.below HI.out.2
  go_upto_region 2 with (first
    | (go_at_call 163; refine (little_c S g o 16 c b _ hr1 HR.out.2 hnc (by omega)).mono ?_; rintro e w' ⟨rfl, hw⟩; rw [hw]; clear hw w')
    | (refine bld_n3 rfl (.tmp 5) (.const (.int .u64 0)) (.const (.int .u64 0)) rfl (litF b) 0 0 rfl rfl rfl ?_)
    | (refine st_n3 rfl (.tmp 3) (.tmp 6) rfl W.heap.size ⟨litF b, 0, 0⟩ rfl rfl ⟨0, 0, 0⟩ (ArrN.new W ⟨0, 0, 0⟩) ?_; intro w1 hA1 hO1))
  have hb1 : Below W.heap.size W w1 := below_only ((Below.refl _ _).alloc (Nat.le_refl _) _) (by rw [World.size_alloc]; omega) hO1 (fun k hk e => by omega)
  have hr2 : Rd w1 S (some ⟨g, o + 8, none⟩) (b.drop 8) := rd_drop (hr1.below hb1)
  have hl2 : (b.drop 8).length = 8 := by rw [List.length_drop, HR.out.2]
  have f1 := hA1.fr 1
  have c1 := hA1.c1
  go_upto_region 4 with (first
    | (go_at_call 163; refine (little_c S g (o + 8) 8 (c - 8) (b.drop 8) _ hr2 hl2 (by omega) (by omega)).mono ?_; rintro e w' ⟨rfl, hw⟩; rw [hw]; clear hw w'))
  have hA2 := hA1.set1 (litF (b.drop 8))
  have hb2 : Below W.heap.size W (w1.setCell ⟨W.heap.size, 1, none⟩ (D (litF (b.drop 8)))) := hb1.setCell (Nat.le_refl _) _
  have c2 := hA2.c2
  have f2 := hA2.fr 2
  have c3 : (w1.setCell ⟨W.heap.size, 1, none⟩ (D (litF (b.drop 8)))).cell? ⟨W.heap.size, 2, none⟩ = some (.int .u64 0) := c2
  clear c2 c1
  have n1 : bits .or .u64 0 1 = 1 := by decide
  generalize (w1.setCell ⟨W.heap.size, 1, none⟩ (D (litF (b.drop 8)))) = w2 at *
  clear f1
  go_region
  have hA3 := (hA2.set2 1)
  have hb3 : Below W.heap.size W (w2.setCell ⟨W.heap.size, 2, none⟩ (D 1)).drew := (hb2.setCell (Nat.le_refl _) _).drew
  have hA4 : ArrN (w2.setCell ⟨W.heap.size, 2, none⟩ (.int .u64 1)).drew W.heap.size (partF b) := hA3
  have hb4 : Below W.heap.size W (w2.setCell ⟨W.heap.size, 2, none⟩ (.int .u64 1)).drew := hb3
  generalize (w2.setCell ⟨W.heap.size, 2, none⟩ (.int .u64 1)).drew = w3 at *
  have hZ := HI.out.1.below hb4
  go_wp2_with (first
    | (refine ld_n3 rfl (.tmp 3) rfl W.heap.size rfl (partF b) hA4 ?_)
    | (refine st_n3 rfl (.tmp 2) (.tmp 26) rfl w.heap.size (partF b) rfl rfl ⟨0, 0, 0⟩ hZ ?_; intro w4 hA5 hO5))
  refine bodyPost_ret (v := .agg (n3V (partF b))) (results_cell_row (P := Tryz.prog) Tryz.results165 _ _ w.heap.size _ _ _ _ rfl hA5 Tryz.underlying256 rfl Tryz.infoN3) rfl (And.intro rfl ?_)
  have hbz := HI.out.2.trans (hb4.mono HI.out.2.size)
  exact below_only hbz hbz.size hO5 (fun k hk e => by omega)
attribute [local go_sem ↓] D_guard2l
set_option maxHeartbeats 4000000 in
theorem reduced_c (h : N3) (w : World) : Calls Tryz.prog 167 #[.agg (n3V h)] w (BackR w (.agg (n3V (redF h)))) := by
  have hsz : (n3V h).size = 3 := rfl
  go_enter Tryz.func167, Tryz.ntmps167
  go_upto_region 1 with (fail)
  have hI : ArrN ((w.alloc (.cells (n3V h) 256)).alloc (.cells #[.int .u64 0, .int .u64 0, .int .u64 0] 256)) w.heap.size h ∧ ArrN ((w.alloc (.cells (n3V h) 256)).alloc (.cells #[.int .u64 0, .int .u64 0, .int .u64 0] 256)) (w.heap.size + 1) ⟨0, 0, 0⟩ ∧ Below w.heap.size w ((w.alloc (.cells (n3V h) 256)).alloc (.cells #[.int .u64 0, .int .u64 0, .int .u64 0] 256)) := by
    have a2 := ArrN.new (w.alloc (.cells (n3V h) 256)) ⟨0, 0, 0⟩
    rw [World.size_alloc] at a2
    exact ⟨(ArrN.new w h).below ((Below.refl _ _).alloc (Nat.le_refl _) _), a2, ((Below.refl _ w).alloc (Nat.le_refl _) _).alloc (by simp) _⟩
  refine wp_world (fun W => ArrN W w.heap.size h ∧ ArrN W (w.heap.size + 1) ⟨0, 0, 0⟩ ∧ Below w.heap.size w W) hI ?_
  clear hI
  intro W hI
  have HI := Lib.hid hI
  clear hI
  go_wp2
  go_loopw [3, 5, 19] (fun v3 v5 v19 wr => ∃ i : Nat, v5 = .int .i64 (i : Int) ∧ i ≤ 2 ∧ ArrN wr w.heap.size (redK h i) ∧ ArrN wr (w.heap.size + 1) ⟨0, 0, 0⟩ ∧ Below w.heap.size w wr) (fun v3 v5 _ _ => (2 - intOf v5).toNat)
  case atStart => exact ⟨0, rfl, by omega, HI.out⟩
  case round =>
    obtain ⟨i, rfl, hi, hA, hZ, hB⟩ := hrel
    by_cases hik : i < 2
    · have k1 : (i : Int) < 2 := by omega
      have c2 := hA.c2
      have f2 := hA.fr 2
      have HA := Lib.hid (And.intro hA (And.intro hZ hB))
      clear hA hZ hB
      generalize hX : redK h i = X at *
      have n1 : ∀ wx, (binOp .and 35 (D X.c) (.int .u64 3)).run Tryz.prog wx = .ok (D (X.c &&& 3)) wx := fun wx => D_and (P := Tryz.prog) (w := wx) (t := 35) (x := X.c) (y := 3)
      have n2 : ∀ wx, (binOp .mul 35 (.int .u64 5) (D (shr64 X.c 2))).run Tryz.prog wx = .ok (D (5 * shr64 X.c 2)) wx := fun wx => D_mul (P := Tryz.prog) (w := wx) (t := 35) (x := 5) (y := shr64 X.c 2)
      go_upto_region 5 with (fail)
      have hA2 := HA.out.1.set2 (X.c &&& 3)
      have ho2 : Below w.heap.size w (wr.setCell ⟨w.heap.size, 2, none⟩ (D (X.c &&& 3))) := HA.out.2.2.setCell (Nat.le_refl _) _
      have hZ2 : ArrN (wr.setCell ⟨w.heap.size, 2, none⟩ (D (X.c &&& 3))) (w.heap.size + 1) ⟨0, 0, 0⟩ := HA.out.2.1.only ((Only.refl (fun k => k = w.heap.size) wr).setCell _ _ (.inl rfl)) (by omega)
      generalize (wr.setCell ⟨w.heap.size, 2, none⟩ (D (X.c &&& 3))) = w2 at *
      have HA2 := Lib.hid (And.intro hA2 (And.intro hZ2 ho2))
      clear c2 f2 hA2 hZ2 ho2 HA
      go_wp2_with (first
        | (refine ld_n3 rfl (.tmp 1) rfl w.heap.size rfl ⟨X.a, X.b, X.c &&& 3⟩ HA2.out.1 ?_)
        | (refine bld_n3 rfl (.tmp 16) (.const (.int .u64 0)) (.const (.int .u64 0)) rfl (5 * shr64 X.c 2) 0 0 rfl rfl rfl ?_)
        | (go_at_call 164; refine (plus_c ⟨X.a, X.b, X.c &&& 3⟩ ⟨5 * shr64 X.c 2, 0, 0⟩ _).mono ?_; rintro e w3 ⟨rfl, hb3⟩)
        | (refine st_n3 rfl (.tmp 1) (.tmp 18) rfl w.heap.size (redS X) rfl rfl ⟨X.a, X.b, X.c &&& 3⟩ (HA2.out.1.below hb3) ?_; intro w4 hA4 hO4))
      have hb5 := HA2.out.2.2.trans (hb3.mono HA2.out.2.2.size)
      refine ⟨⟨i + 1, by simp, by omega, by rw [redK, hX]; exact hA4, (HA2.out.2.1.below hb3).only hO4 (by omega), below_only hb5 hb5.size hO4 (fun k hk e => by omega)⟩, by simp [intOf]; omega⟩
    · obtain rfl : i = 2 := by omega
      have k1 : ¬ ((2 : Nat) : Int) < 2 := by omega
      have HA := Lib.hid (And.intro hA (And.intro hZ hB))
      clear hA hZ hB
      have n5 : (n3V ⟨5, 0, 0⟩) = #[.int .u64 5, .int .u64 0, .int .u64 0] := rfl
      generalize hX : redK h 2 = X at *
      go_upto_region 8 with (first
        | (refine ld_n3 rfl (.tmp 1) rfl w.heap.size rfl X HA.out.1 ?_)
        | (refine bld_n3 rfl (.const (.int .u64 5)) (.const (.int .u64 0)) (.const (.int .u64 0)) rfl 5 0 0 rfl rfl rfl ?_)
        | (go_at_call 164; refine (plus_c X ⟨5, 0, 0⟩ _).mono ?_; rintro e w3 ⟨rfl, hb3⟩)
        | (refine st_n3 rfl (.tmp 4) (.tmp 22) rfl w3.heap.size (plusF X ⟨5, 0, 0⟩) rfl rfl ⟨0, 0, 0⟩ (ArrN.new w3 ⟨0, 0, 0⟩) ?_; intro w4 hA4 hO4))
      have hb4 : Below w3.heap.size w3 w4 := below_only ((Below.refl _ _).alloc (Nat.le_refl _) _) (by rw [World.size_alloc]; omega) hO4 (fun k hk e => by omega)
      have hb5 := hb3.trans (hb4.mono hb3.size)
      have HS := Lib.hid (And.intro ((HA.out.1.below hb5)) (And.intro (HA.out.2.1.below hb5) (And.intro (HA.out.2.2.trans (hb5.mono HA.out.2.2.size)) (And.intro hA4 hb3.size))))
      clear hb3 hb4 hb5 hO4
      have hR : redF h = if shr64 (plusF X ⟨5, 0, 0⟩).c 2 = 0 then X else ⟨(plusF X ⟨5, 0, 0⟩).a, (plusF X ⟨5, 0, 0⟩).b, (plusF X ⟨5, 0, 0⟩).c &&& 3⟩ := by rw [← hX]; rfl
      have HRd := Lib.hid hR
      clear hR
      generalize plusF X ⟨5, 0, 0⟩ = Z at *
      have c2 := hA4.c2
      have f2 := hA4.fr 2
      generalize w3.heap.size = B3 at *
      have hsz4 := HA.out.2.2.size
      have n3 : ∀ wx, (binOp .neq 35 (D (shr64 Z.c 2)) (.int .u64 0)).run Tryz.prog wx = .ok (.bool (!decide (shr64 Z.c 2 = 0))) wx := fun wx => D_neq (P := Tryz.prog) (w := wx) (t := 35) (x := shr64 Z.c 2) (y := 0)
      have n1 : ∀ wx, (binOp .and 35 (D Z.c) (.int .u64 3)).run Tryz.prog wx = .ok (D (Z.c &&& 3)) wx := fun wx => D_and (P := Tryz.prog) (w := wx) (t := 35) (x := Z.c) (y := 3)
      by_cases hz : shr64 Z.c 2 = 0
      · have HRe := Lib.hid (HRd.out.trans (if_pos hz))
        have hzd : (!decide (shr64 Z.c 2 = 0)) = false := by simp [hz]
        rw [hzd] at n3
        clear hzd hz
        go_wp2_with (first
          | (refine ld_n3 rfl (.tmp 1) rfl w.heap.size rfl X HS.out.1 ?_)
          | (refine st_n3 rfl (.tmp 2) (.tmp 32) rfl (w.heap.size + 1) X rfl rfl ⟨0, 0, 0⟩ HS.out.2.1 ?_; intro w6 hA6 hO6))
        refine bodyPost_ret (v := .agg (n3V X)) (results_cell_row (P := Tryz.prog) Tryz.results167 _ _ (w.heap.size + 1) _ _ _ _ rfl hA6 Tryz.underlying256 rfl Tryz.infoN3) rfl (And.intro (by rw [HRe.out]) ?_)
        exact below_only HS.out.2.2.1 HS.out.2.2.1.size hO6 (fun k hk e => by omega)
      · have HRe := Lib.hid (HRd.out.trans (if_neg hz))
        have hzd : (!decide (shr64 Z.c 2 = 0)) = true := by simp [hz]
        rw [hzd] at n3
        clear hzd hz
        go_upto_region 10 with (fail)
        have hA5 := hA4.set2 (Z.c &&& 3)
        have ho5 : Only (fun k => k = B3) w4 (w4.setCell ⟨B3, 2, none⟩ (D (Z.c &&& 3))) := (Only.refl (fun k => k = B3) w4).setCell _ _ (.inl rfl)
        have hZ5 : ArrN (w4.setCell ⟨B3, 2, none⟩ (D (Z.c &&& 3))) (w.heap.size + 1) ⟨0, 0, 0⟩ := HS.out.2.1.only ho5 (by have := HS.out.2.2.2.2; have := (HA.out.2.1.lt); omega)
        have hb6 : Below w.heap.size w (w4.setCell ⟨B3, 2, none⟩ (D (Z.c &&& 3))) := HS.out.2.2.1.setCell (by have := HS.out.2.2.2.2; show w.heap.size ≤ B3; omega) _
        generalize (w4.setCell ⟨B3, 2, none⟩ (D (Z.c &&& 3))) = w5 at *
        clear c2 f2
        go_wp2_with (first
          | (refine ld_n3 rfl (.tmp 4) rfl B3 rfl ⟨Z.a, Z.b, Z.c &&& 3⟩ hA5 ?_)
          | (refine st_n3 rfl (.tmp 2) (.tmp 31) rfl (w.heap.size + 1) ⟨Z.a, Z.b, Z.c &&& 3⟩ rfl rfl ⟨0, 0, 0⟩ hZ5 ?_; intro w6 hA6 hO6))
        refine bodyPost_ret (v := .agg (n3V ⟨Z.a, Z.b, Z.c &&& 3⟩)) (results_cell_row (P := Tryz.prog) Tryz.results167 _ _ (w.heap.size + 1) _ _ _ _ rfl hA6 Tryz.underlying256 rfl Tryz.infoN3) rfl (And.intro (by rw [HRe.out]) ?_)
        exact below_only hb6 hb6.size hO6 (fun k hk e => by omega)
end Go.Proofs.YtolgaapiedbkfaaGreat
/-
  In plain: the stream of relay/chacha, and that it is undone by itself. No condition but those that each theorem states.
-/
namespace Go.Kx
set_option linter.unusedVariables false
set_option linter.unusedSimpArgs false

/-- A word of some bytes, the lowest first, behind so many of them. -/
def wordK (b : List UInt8) : Nat → UInt32
  | 0 => 0
  | i + 1 => wordK b i ||| shl32 (b.getD i 0).toUInt32 (8 * i)
/-- A part of a row. -/
def partL {α : Type} (n : Nat) (b : List α) (k : Nat) : List α := (b.drop (n * k)).take n
def wordF (b : List UInt8) : UInt32 := wordK b b.length
def wordsF (b : List UInt8) : List UInt32 := (List.range (b.length / 4)).map fun k => wordF (partL 4 b k)
theorem wordsF_len (b : List UInt8) : (wordsF b).length = b.length / 4 := by simp [wordsF]
def rotlU (x : UInt32) (n : Nat) : UInt32 := shl32 x n ||| shr32 x (32 - n)
/-- One word more of another one. -/
def addU (s : List UInt32) (a b : Nat) : List UInt32 := s.set a (s.getD a 0 + s.getD b 0)
def rotX (s : List UInt32) (d a n : Nat) : List UInt32 := s.set d (rotlU (s.getD d 0 ^^^ s.getD a 0) n)
def qtr (s : List UInt32) (a b c d : Nat) : List UInt32 :=
  rotX (addU (rotX (addU (rotX (addU (rotX (addU s a b) d a 16) c d) b c 12) a b) d a 8) c d) b c 7
theorem addU_len (s : List UInt32) (a b : Nat) : (addU s a b).length = s.length := List.length_set
theorem rotX_len (s : List UInt32) (d a n : Nat) : (rotX s d a n).length = s.length := List.length_set
theorem qtr_len (s : List UInt32) (a b c d : Nat) : (qtr s a b c d).length = s.length := by unfold qtr; simp only [addU_len, rotX_len]
def colK (s : List UInt32) : Nat → List UInt32
  | 0 => s
  | i + 1 => qtr (colK s i) i (4 + i) (8 + i) (12 + i)
theorem colK_len (s : List UInt32) (i : Nat) : (colK s i).length = s.length := by
  induction i with
  | zero => rfl
  | succ i ih => rw [colK, qtr_len, ih]
def mixF (s : List UInt32) : List UInt32 := qtr (qtr (qtr (qtr (colK s 4) 0 5 10 15) 1 6 11 12) 2 7 8 13) 3 4 9 14
theorem mixF_len (s : List UInt32) : (mixF s).length = s.length := by unfold mixF; simp only [qtr_len, colK_len]
def mixK (s : List UInt32) : Nat → List UInt32
  | 0 => s
  | i + 1 => mixF (mixK s i)
theorem mixK_len (s : List UInt32) (i : Nat) : (mixK s i).length = s.length := by
  induction i with
  | zero => rfl
  | succ i ih => rw [mixK, mixF_len, ih]
/-- The bytes of "expand 32-byte k". -/
def sayB : List UInt8 := [101, 120, 112, 97, 110, 100, 32, 51, 50, 45, 98, 121, 116, 101, 32, 107]
def initF (key : List UInt8) (count : UInt32) (nonce : List UInt8) : List UInt32 := wordsF sayB ++ wordsF key ++ [count] ++ wordsF nonce
theorem initF_len (key : List UInt8) (count : UInt32) (nonce : List UInt8) (h : key.length = 32) (h2 : nonce.length = 12) : (initF key count nonce).length = 16 := by
  unfold initF
  simp only [List.length_append, wordsF_len, h, h2, List.length_cons, List.length_nil]
  rfl
def outC (s t : List UInt32) : Nat → List UInt8
  | 0 => List.replicate 64 0
  | i + 1 => (outC s t i).set i (UInt8.ofNat (shr32 (s.getD (i / 4) 0 + t.getD (i / 4) 0) (8 * (i % 4))).toNat)
theorem outC_len (s t : List UInt32) (i : Nat) : (outC s t i).length = 64 := by
  induction i with
  | zero => simp [outC]
  | succ i ih => rw [outC, List.length_set, ih]
/-- A block of the stream. -/
def blockF (key : List UInt8) (count : UInt32) (nonce : List UInt8) : List UInt8 := outC (mixK (initF key count nonce) 10) (initF key count nonce) 64
theorem blockF_len (key : List UInt8) (count : UInt32) (nonce : List UInt8) : (blockF key count nonce).length = 64 := outC_len _ _ _

/-- So many bytes of a row, from one on, turned by others. -/
def xorK (c : List UInt8) (o : Nat) (k : List UInt8) : Nat → List UInt8
  | 0 => c
  | i + 1 => (xorK c o k i).set (o + i) ((xorK c o k i).getD (o + i) 0 ^^^ k.getD i 0)
theorem xorK_len (c : List UInt8) (o : Nat) (k : List UInt8) (i : Nat) : (xorK c o k i).length = c.length := by
  induction i with
  | zero => rfl
  | succ i ih => rw [xorK, List.length_set, ih]
theorem xorK_get (c : List UInt8) (o : Nat) (k : List UInt8) (i j : Nat) (hj : j < c.length) : (xorK c o k i).getD j 0 = if o ≤ j ∧ j < o + i then c.getD j 0 ^^^ k.getD (j - o) 0 else c.getD j 0 := by
  induction i with
  | zero => rw [if_neg (by omega)]; rfl
  | succ i ih =>
    rw [xorK, List.getD_eq_getElem?_getD, List.getElem?_set]
    by_cases h : o + i = j
    · subst h
      rw [if_pos rfl, if_pos (by rw [xorK_len]; exact hj), if_pos (by omega), Option.getD_some, show o + i - o = i by omega]
      rw [ih, if_neg (by omega)]
    · rw [if_neg h, ← List.getD_eq_getElem?_getD, ih]
      by_cases h2 : o ≤ j ∧ j < o + i
      · rw [if_pos h2, if_pos (by omega)]
      · rw [if_neg h2, if_neg (by omega)]
/-- The bytes and the count, behind parts that were turned, in whatever order they came. -/
def strK (key nonce : List UInt8) (c : List UInt8 × UInt32) (pre : List Nat) : List UInt8 × UInt32 :=
  pre.foldl (fun c x => (xorK c.1 (64 * x) (blockF key c.2 nonce) (min 64 (c.1.length - 64 * x)), c.2 + 1)) c
theorem strK_snoc (key nonce : List UInt8) (c : List UInt8 × UInt32) (pre : List Nat) (x : Nat) :
    strK key nonce c (pre ++ [x]) = (xorK (strK key nonce c pre).1 (64 * x) (blockF key (strK key nonce c pre).2 nonce) (min 64 ((strK key nonce c pre).1.length - 64 * x)), (strK key nonce c pre).2 + 1) := by
  unfold strK
  rw [List.foldl_append]
  rfl
theorem strK_len (key nonce : List UInt8) (c : List UInt8 × UInt32) (pre : List Nat) : (strK key nonce c pre).1.length = c.1.length := by
  induction pre generalizing c with
  | nil => rfl
  | cons x r ih => exact (ih _).trans (xorK_len _ _ _ _)
/-- The parts of a row of so many. -/
def partsN (n N : Nat) : Nat := (N + n - 1) / n
def strF (key : List UInt8) (count : UInt32) (nonce b : List UInt8) : List UInt8 := (strK key nonce (b, count) (List.range (partsN 64 b.length))).1
theorem strF_len (key : List UInt8) (count : UInt32) (nonce b : List UInt8) : (strF key count nonce b).length = b.length := strK_len _ _ _ _
theorem strK_count (key nonce : List UInt8) (c : List UInt8 × UInt32) (pre : List Nat) : (strK key nonce c pre).2 = c.2 + UInt32.ofNat pre.length := by
  induction pre generalizing c with
  | nil => simp [strK]
  | cons x r ih =>
    refine (ih _).trans ?_
    rw [List.length_cons]
    show c.2 + 1 + UInt32.ofNat r.length = c.2 + UInt32.ofNat (r.length + 1)
    rw [UInt32.ofNat_add, UInt32.add_assoc, UInt32.add_comm 1]
    rfl
theorem strK_get (key nonce b : List UInt8) (count : UInt32) (m j : Nat) (hj : j < b.length) :
    (strK key nonce (b, count) (List.range m)).1.getD j 0 = if j < 64 * m then b.getD j 0 ^^^ (blockF key (count + UInt32.ofNat (j / 64)) nonce).getD (j % 64) 0 else b.getD j 0 := by
  induction m with
  | zero => rw [if_neg (by omega)]; rfl
  | succ m ih =>
    rw [List.range_succ, strK_snoc]
    dsimp only
    rw [xorK_get _ _ _ _ _ (by rw [strK_len]; exact hj), ih, strK_len, strK_count, List.length_range]
    dsimp only
    by_cases h : j < 64 * m
    · rw [if_neg (by omega), if_pos h, if_pos (by omega)]
    · rw [if_neg h]
      by_cases h2 : j < 64 * (m + 1)
      · rw [if_pos (by omega), if_pos h2]
        have e1 : j / 64 = m := by omega
        have e2 : j - 64 * m = j % 64 := by omega
        rw [e1, e2]
      · rw [if_neg (by omega), if_neg h2]
theorem strF_get (key : List UInt8) (count : UInt32) (nonce b : List UInt8) (j : Nat) (hj : j < b.length) : (strF key count nonce b).getD j 0 = b.getD j 0 ^^^ (blockF key (count + UInt32.ofNat (j / 64)) nonce).getD (j % 64) 0 := by
  unfold strF
  rw [strK_get _ _ _ _ _ _ hj, if_pos (by unfold partsN; omega)]
/-- What was turned twice is as it was. -/
theorem strF_twice (key : List UInt8) (count : UInt32) (nonce b : List UInt8) : strF key count nonce (strF key count nonce b) = b := by
  apply List.ext_getElem
  · rw [strF_len, strF_len]
  · intro j h1 h2
    have h3 := strF_get key count nonce (strF key count nonce b) j (by rw [strF_len]; exact h2)
    rw [strF_get key count nonce b j h2] at h3
    rw [List.getD_eq_getElem?_getD, List.getElem?_eq_getElem h1, Option.getD_some, List.getD_eq_getElem?_getD (l := b), List.getElem?_eq_getElem h2, Option.getD_some, UInt8.xor_assoc, UInt8.xor_self, UInt8.xor_zero] at h3
    exact h3
end Go.Kx
/-
  slices.Chunk and its iterator, over a slice of bytes that is not empty. Conditions: those of each theorem.
-/
namespace Go.Proofs.YtolgaapiedbkfaaGreat
open Go.RowKit Go.Kx Go.Shelf
set_option linter.unusedVariables false
set_option linter.unusedSimpArgs false
attribute [local go_sem] Oper.semAt_some

/-- Blocks of cells of T stay as they are. -/
def KeepC (T : Nat → Prop) (w w' : World) : Prop := ∀ k o, T k → w.heap[k]? = some o → o.isCells = true → w'.heap[k]? = some o
theorem KeepC.refl (T : Nat → Prop) (w : World) : KeepC T w w := fun _ _ _ h _ => h
theorem KeepC.t {T : Nat → Prop} {A B C : World} (h : KeepC T A B) (k : KeepC T B C) : KeepC T A C := fun j o hT h1 h2 => k j o hT (h j o hT h1 h2) h2
theorem KeepC.b {T : Nat → Prop} (W : World) (l : Nat) (o o' : Obj) (h : W.heap[l]? = some o) (hc : o.isCells = false) : KeepC T W (W.putObj l o') := fun k x _ h1 h2 => by
  by_cases e : k = l
  · subst e; rw [h] at h1; cases h1; rw [hc] at h2; cases h2
  · exact (World.putObj_heap_other e).trans h1
theorem KeepC.drewN (T : Nat → Prop) (w : World) (q : Nat) : KeepC T w (w.drewN q) := fun _ _ _ h _ => h
theorem KeepC.cell {T : Nat → Prop} {w w' : World} (h : KeepC T w w') {b o : Nat} {v : Value} (hb : T b) (hc : w.cell? ⟨b, o, none⟩ = some v) : w'.cell? ⟨b, o, none⟩ = some v := by
  unfold World.cell? at hc ⊢
  cases ho : w.heap[b]? with
  | none => simp [ho] at hc
  | some x =>
    cases x with
    | cells C t f => rw [h b _ hb ho rfl]; simpa [ho] using hc
    | _ => simp [ho] at hc

set_option maxRecDepth 100000 in
set_option maxHeartbeats 4000000 in
theorem chunk_in (F : Fence) (n : Nat) (h : F.fn 128) (hro : F.round = none) (a : Option Addr) (len cap m : Nat) (hm : 1 ≤ m) (w : World) :
    CallsIn F n Tryz.prog 128 #[.slice a len cap, .int .i64 (m : Int)] w fun e w' => e = .returned (.func (.func 155) #[] #[rp w.heap.size, rp (w.heap.size + 1)]) ∧ w' = (w.alloc (.cells #[.slice a len cap] 38)).alloc (.cells #[.int .i64 (m : Int)] 3) := by
  have h1 : ¬ (m : Int) < 1 := by omega
  refine callsIn_of_wp Tryz.func128 rfl h ?_ hro
  simp only [Tryz.ntmps128, List.size_toArray, List.length_cons, List.length_nil, Nat.reduceAdd, Nat.reduceSub, Array.replicate_succ, Array.replicate_zero, List.push_toArray, List.append_toArray, List.nil_append, List.cons_append]
  gi_wp2
  go_ret
  exact ⟨rfl, by simp⟩

/-- A part of so many. -/
abbrev PartOf (m len : Nat) := { k : Nat // k < partsN m len }
def encPart (g o m len : Nat) (k : Nat) : Array Value := #[.slice (some ⟨g, o + m * k, none⟩) (min m (len - m * k)) (min m (len - m * k))]

set_option maxRecDepth 100000 in
set_option maxHeartbeats 8000000 in
theorem chunk1_in (F : Fence) (n : Nat) (h7 : F.fn 155) (hro : F.round = none) (hn : 1 ≤ n) (l Bs Bn g o len cap m : Nat) (hm : 1 ≤ m) (hmb : m ≤ 1000) (hlc : len ≤ cap) (hcb : len ≤ 4611686018427387904) (J Jx : List (PartOf m len) → World → Prop)
    (hY : ∀ pre x W, J pre W → pre.length < partsN m len → YieldAt F (n - 1) Tryz.prog l (encPart g o m len x.1) W fun e W' =>
      (e = .returned (.bool true) ∧ J (pre ++ [x]) W' ∧ KeepC (fun k => k = Bs ∨ k = Bn) W W') ∨ (e = .returned (.bool false) ∧ Jx (pre ++ [x]) W'))
    (hJd : ∀ pre W q, J pre W → J pre (W.drewN q)) (W : World) (hBs : W.cell? ⟨Bs, 0, none⟩ = some (.slice (some ⟨g, o, none⟩) len cap)) (hBn : W.cell? ⟨Bn, 0, none⟩ = some (.int .i64 (m : Int))) (h0 : J [] W) :
    CallsIn F n Tryz.prog 155 #[.func (.yield l) #[] #[], rp Bs, rp Bn] W fun e W' => (∃ v, e = .returned v) ∧
      ((∃ ys, ys.unattach = List.range (partsN m len) ∧ J ys W') ∨ (∃ pre, True ∧ Jx pre W')) := by
  refine callsIn_of_wp Tryz.func155 rfl h7 ?_ hro
  simp only [Tryz.ntmps155, List.size_toArray, List.length_cons, List.length_nil, Nat.reduceAdd, Nat.reduceSub, Array.replicate_succ, Array.replicate_zero, List.push_toArray, List.append_toArray, List.nil_append, List.cons_append]
  gi_wp2
  gi_loopw [4] (fun i wr => ∃ (k : Nat) (pre : List (PartOf m len)), k ≤ partsN m len ∧ i = .int .i64 ((m * k : Nat) : Int) ∧ pre.unattach = List.range k ∧ J pre wr ∧ KeepC (fun k => k = Bs ∨ k = Bn) W wr)
    (fun i _ => len - (intOf i).toNat)
  case atStart => exact ⟨0, [], Nat.zero_le _, rfl, rfl, h0, KeepC.refl _ _⟩
  case round =>
    obtain ⟨k, pre, hk, rfl, hpre, hJs, hnx⟩ := hrel
    have c1 := hnx.cell (.inl rfl) hBs
    have c2 := hnx.cell (.inr rfl) hBn
    obtain ⟨I, hI⟩ : ∃ I, I = m * k := ⟨_, rfl⟩
    by_cases hlt : m * k < len
    · have hkp : k < partsN m len := by
        unfold partsN
        refine (Nat.lt_div_iff_mul_lt (by omega)).2 ?_
        rw [Nat.mul_comm]; omega
      by_cases hmin : m ≤ len - m * k
      · rw [← hI] at hlt
        have k1 : (I : Int) < (len : Int) := by omega
        have k3 : IntKind.i64.wrap ((I : Int) + (m : Int)) = (I : Int) + (m : Int) := IntWalk.i64_in _ (by omega)
        have k4 : ((I : Int) + (m : Int)).toNat - I = m := by omega
        have k5 : ¬ ((len - I : Nat) : Int) < (m : Int) := by omega
        have hmm : min m (len - m * k) = m := by omega
        have HMM := Lib.hid hmm
        rw [← hI]
        have HI := Lib.hid hI
        have HM := Lib.hid (And.intro hpre hmin)
        clear hI hpre hmin hmm
        gi_wp2
        refine wpIn_region_quiet_lit hro (by kernel_rfl) (by kernel_rfl) ?_
        repeat (gi_big_quiet_step (fail))
        refine wpQuietIn_nil ?_
        rintro _ ⟨nq, rfl⟩
        obtain ⟨fn, tmps, assign, body, hy, hR⟩ := hY pre ⟨k, hkp⟩ (wr.drewN nq) (hJd _ _ _ hJs) (by have h := congrArg List.length HM.out.1; rw [List.length_unattach, List.length_range] at h; rw [h]; exact hkp)
        dsimp only [encPart] at hy
        rw [HMM.out, ← HI.out] at hy
        have d1 : (wr.drewN nq).cell? ⟨Bs, 0, none⟩ = some (.slice (some ⟨g, o, none⟩) len cap) := c1
        have d2 : (wr.drewN nq).cell? ⟨Bn, 0, none⟩ = some (.int .i64 (m : Int)) := c2
        gi_wp2
        refine hR.mono ?_
        rintro e W3 (⟨rfl, hJ3, hk3⟩ | ⟨rfl, hJx3⟩)
        · have e2 := (hnx.t (KeepC.drewN _ wr nq)).t hk3 |>.cell (.inr rfl) hBn
          have hr3 : KeepC (fun k => k = Bs ∨ k = Bn) W W3 := (hnx.t (KeepC.drewN _ wr nq)).t hk3
          have k6 : IntKind.i64.wrap ((I : Int) + (m : Int)) = (I : Int) + (m : Int) := IntWalk.i64_in _ (by omega)
          gi_wp2
          go_roundw
          case rel => exact ⟨k + 1, pre ++ [⟨k, hkp⟩], hkp, congrArg (Value.int .i64) (by rw [HI.out, Nat.mul_succ]; omega), by rw [List.unattach_append, HM.out.1, List.range_succ]; rfl, hJ3, hr3⟩
          case measure => simp only [intOf, Array.getD_eq_getD_getElem?]; simp; omega
        · gi_wp2
          refine bodyPost_ret (results_none rfl _ _ _) rfl ?_
          exact ⟨⟨_, rfl⟩, .inr ⟨_, trivial, hJx3⟩⟩
      · rw [← hI] at hlt
        have k1 : (I : Int) < (len : Int) := by omega
        have k3 : IntKind.i64.wrap ((I : Int) + ((len - I : Nat) : Int)) = (I : Int) + ((len - I : Nat) : Int) := IntWalk.i64_in _ (by omega)
        have k4 : ((I : Int) + ((len - I : Nat) : Int)).toNat - I = len - I := by omega
        have k5 : ((len - I : Nat) : Int) < (m : Int) := by omega
        have hmm : min m (len - m * k) = len - m * k := by omega
        have HMM := Lib.hid hmm
        rw [← hI]
        have HI := Lib.hid hI
        have HM := Lib.hid (And.intro hpre hmin)
        clear hI hpre hmin hmm
        gi_wp2
        refine wpIn_region_quiet_lit hro (by kernel_rfl) (by kernel_rfl) ?_
        repeat (gi_big_quiet_step (fail))
        refine wpQuietIn_nil ?_
        rintro _ ⟨nq, rfl⟩
        obtain ⟨fn, tmps, assign, body, hy, hR⟩ := hY pre ⟨k, hkp⟩ (wr.drewN nq) (hJd _ _ _ hJs) (by have h := congrArg List.length HM.out.1; rw [List.length_unattach, List.length_range] at h; rw [h]; exact hkp)
        dsimp only [encPart] at hy
        rw [HMM.out, ← HI.out] at hy
        have d1 : (wr.drewN nq).cell? ⟨Bs, 0, none⟩ = some (.slice (some ⟨g, o, none⟩) len cap) := c1
        have d2 : (wr.drewN nq).cell? ⟨Bn, 0, none⟩ = some (.int .i64 (m : Int)) := c2
        gi_wp2
        refine hR.mono ?_
        rintro e W3 (⟨rfl, hJ3, hk3⟩ | ⟨rfl, hJx3⟩)
        · have e2 := (hnx.t (KeepC.drewN _ wr nq)).t hk3 |>.cell (.inr rfl) hBn
          have hr3 : KeepC (fun k => k = Bs ∨ k = Bn) W W3 := (hnx.t (KeepC.drewN _ wr nq)).t hk3
          have k6 : IntKind.i64.wrap ((I : Int) + (m : Int)) = (I : Int) + (m : Int) := IntWalk.i64_in _ (by omega)
          gi_wp2
          go_roundw
          case rel => exact ⟨k + 1, pre ++ [⟨k, hkp⟩], hkp, congrArg (Value.int .i64) (by rw [HI.out, Nat.mul_succ]; omega), by rw [List.unattach_append, HM.out.1, List.range_succ]; rfl, hJ3, hr3⟩
          case measure => simp only [intOf, Array.getD_eq_getD_getElem?]; simp; omega
        · gi_wp2
          refine bodyPost_ret (results_none rfl _ _ _) rfl ?_
          exact ⟨⟨_, rfl⟩, .inr ⟨_, trivial, hJx3⟩⟩
    · have hkn : k = partsN m len := by
        have h2 : partsN m len ≤ k := by
          unfold partsN
          refine Nat.le_of_lt_succ ((Nat.div_lt_iff_lt_mul (by omega)).2 ?_)
          rw [Nat.mul_comm, Nat.mul_succ]; omega
        omega
      rw [← hI] at hlt
      rw [← hI]
      have k1 : ¬ (I : Int) < (len : Int) := by omega
      clear hI
      gi_wp2
      go_end0
      exact ⟨⟨_, rfl⟩, .inl ⟨pre, by rw [hpre, hkn], hJs⟩⟩

theorem chunk_stops (F : Fence) (n : Nat) (h7 : F.fn 155) (hro : F.round = none) (hn : 1 ≤ n) (Bs Bn g o len cap m : Nat) (hm : 1 ≤ m) (hmb : m ≤ 1000) (hlc : len ≤ cap) (hcb : len ≤ 4611686018427387904) (w : World)
    (hBs : Boxed w Bs 38 (.slice (some ⟨g, o, none⟩) len cap)) (hBn : Boxed w Bn 3 (.int .i64 (m : Int))) :
    SeqStopsK F n Tryz.prog 155 #[rp Bs, rp Bn] (fun x : PartOf m len => encPart g o m len x.1) (KeepC (fun k => k = Bs ∨ k = Bn)) (fun ys => ys.unattach = List.range (partsN m len)) (fun _ => True) (partsN m len) w := fun l J Jx W hW hJ _ hY h0 =>
  chunk1_in F n h7 hro hn l Bs Bn g o len cap m hm hmb hlc hcb J Jx hY (fun pre W q h => hJ pre W (W.drewN q) none h ⟨rfl, rfl, rfl, Nat.le_refl _, fun _ _ _ => rfl⟩ (fun r e => by cases e)) W
    ((hW.cell (p := ⟨Bs, 0, none⟩) hBs.lt).trans hBs.cell) ((hW.cell (p := ⟨Bn, 0, none⟩) hBn.lt).trans hBn.cell) h0
end Go.Proofs.YtolgaapiedbkfaaGreat
/-
  The contracts of chacha's quarter and mix. No condition but those that each theorem states.
-/
namespace Go.Proofs.YtolgaapiedbkfaaGreat
open Go.RowKit Go.Kx
set_option linter.unusedVariables false
set_option linter.unusedSimpArgs false
set_option maxRecDepth 100000
attribute [local go_sem ↓] U_add U_mul U_xor U_or U_and U_not U_guard1 U_guard2 U_store exec_stU
attribute [local go_sem ↓] U_shl U_shr
attribute [local go_sem] st1_U st1_i

theorem and31p (n : Nat) (h : 1 ≤ n ∧ n ≤ 31) : bits .and .u64 (n : Int) 31 = (n : Int) := by
  obtain ⟨h1, h2⟩ := h
  have : n = 1 ∨ n = 2 ∨ n = 3 ∨ n = 4 ∨ n = 5 ∨ n = 6 ∨ n = 7 ∨ n = 8 ∨ n = 9 ∨ n = 10 ∨ n = 11 ∨ n = 12 ∨ n = 13 ∨ n = 14 ∨ n = 15 ∨ n = 16 ∨ n = 17 ∨ n = 18 ∨ n = 19 ∨ n = 20 ∨ n = 21 ∨ n = 22 ∨ n = 23 ∨ n = 24 ∨ n = 25 ∨ n = 26 ∨ n = 27 ∨ n = 28 ∨ n = 29 ∨ n = 30 ∨ n = 31 := by omega
  rcases this with h | h | h | h | h | h | h | h | h | h | h | h | h | h | h | h | h | h | h | h | h | h | h | h | h | h | h | h | h | h | h <;> subst h <;> rfl
theorem sub32p (n : Nat) (h : 1 ≤ n ∧ n ≤ 31) : IntKind.u64.wrap (32 - (n : Int)) = ((32 - n : Nat) : Int) := by
  obtain ⟨h1, h2⟩ := h
  have e : (32 - (n : Int)) = ((32 - n : Nat) : Int) := by omega
  rw [e]
  unfold IntKind.wrap
  simp [IntKind.bits, IntKind.signed]
  omega
theorem rotl_p (x : UInt32) (n : Nat) (k : Int) (w : World) (hk : k = (n : Int)) (h : 1 ≤ n ∧ n ≤ 31) : Calls Tryz.prog 171 #[U x, .int .i64 k] w fun e w' => e = .returned (U (rotlU x n)) ∧ w' = w := by
  subst hk
  have h1 := and31p n h
  have h2 := sub32p n h
  have h3 : (0 : Int) ≤ (n : Int) := by omega
  have h4 : (0 : Int) ≤ ((32 - n : Nat) : Int) := by omega
  go_enter Tryz.func171, Tryz.ntmps171
  go_wp2
  go_ret
  exact ⟨rfl, rfl⟩
theorem ArrU.g {w : World} {r t : Nat} {xs : List UInt32} (h : ArrU w r t xs) (i : Nat) (hi : i < xs.length) : w.cell? ⟨r, i, none⟩ = some (U (xs.getD i 0)) := by
  rw [h.c i hi, List.getD_eq_getElem?_getD, List.getElem?_eq_getElem hi, Option.getD_some]

theorem region_tailQ {P : Program} {id : Nat} {Q : Exit → Act → World → Prop} {a : Act} {w : World} {l : List Oper} (n : Nat) (hm : P.follows .mixedOrders = true) (hB : Region.lexTailB .any l.toArray n = true)
    (h : wpQuiet P l.toArray (fun x => x = w.drew) (fun a' => wpList P l.toArray Q (l.drop n) a' w.drew) (l.take n) a) : (Code.region id l.toArray true).wp P Q a w := wp_region_still_tail n hm hB (wpStill_of_quiet _ _ h)
/-- What is told of the state behind a step. -/
def StU (w : World) (r : Nat) (s : List UInt32) (e : Ending) (w' : World) : Prop := e = .returned ret0 ∧ ArrU w' r 253 s ∧ Only (· = r) w w'
set_option maxHeartbeats 8000000 in
theorem quarter_c (r : Nat) (s : List UInt32) (a b c d : Nat) (w : World) (hA : ArrU w r 253 s) (hs : s.length = 16) (ha : a < 16) (hb : b < 16) (hc : c < 16) (hd : d < 16) :
    Calls Tryz.prog 174 #[rp r, .int .i64 (a : Int), .int .i64 (b : Int), .int .i64 (c : Int), .int .i64 (d : Int)] w (StU w r (qtr s a b c d)) := by
  have k1 : (a : Int) < 16 := by omega
  have k2 : (b : Int) < 16 := by omega
  have k3 : (c : Int) < 16 := by omega
  have k4 : (d : Int) < 16 := by omega
  have H0 := Lib.hid (And.intro hA (And.intro (Only.refl (fun k => k = r) w) hs))
  clear hA hs
  go_enter Tryz.func174, Tryz.ntmps174
  go_upto_region 0 with (fail)
  obtain ⟨x1, hx1⟩ : ∃ x, x = (s).getD a 0 := ⟨_, rfl⟩
  obtain ⟨x2, hx2⟩ : ∃ x, x = (s).getD b 0 := ⟨_, rfl⟩
  have c1 := H0.out.1.g a (by rw [H0.out.2.2]; omega)
  have c2 := H0.out.1.g b (by rw [H0.out.2.2]; omega)
  have f1 := H0.out.1.fr a
  rw [← hx1] at c1
  rw [← hx2] at c2
  have HX := Lib.hid (And.intro hx1 hx2)
  clear hx1 hx2
  go_region
  have hA' : ArrU (w.setCell ⟨r, a, none⟩ (U (x1 + x2))).drew r 253 (addU s a b) := by show ArrU (w.setCell ⟨r, a, none⟩ (U (x1 + x2))) r 253 _; unfold addU; rw [← HX.out.1, ← HX.out.2]; exact H0.out.1.set _ _
  have hO' := (H0.out.2.1.setCell ⟨r, a, none⟩ (U (x1 + x2)) (.inl rfl)).drew
  have hl' : (addU s a b).length = 16 := (addU_len s a b).trans H0.out.2.2
  generalize hS1 : addU s a b = S1 at hA' hl'
  have HS1 := Lib.hid hS1
  clear c1 c2 f1 HX H0 hS1
  generalize (w.setCell ⟨r, a, none⟩ (U (x1 + x2))).drew = w1 at *
  have H1 := Lib.hid (And.intro hA' (And.intro hO' hl'))
  clear hA' hO' hl'
  go_upto_region 1 with (fail)
  obtain ⟨x1, hx1⟩ : ∃ x, x = (S1).getD d 0 := ⟨_, rfl⟩
  obtain ⟨x2, hx2⟩ : ∃ x, x = (S1).getD a 0 := ⟨_, rfl⟩
  have c1 := H1.out.1.g d (by rw [H1.out.2.2]; omega)
  have c2 := H1.out.1.g a (by rw [H1.out.2.2]; omega)
  have f1 := H1.out.1.fr d
  rw [← hx1] at c1
  rw [← hx2] at c2
  have HX := Lib.hid (And.intro hx1 hx2)
  clear hx1 hx2
  refine region_tailQ 16 (by kernel_rfl) (by kernel_rfl) ?_
  simp only [List.take_succ_cons, List.take_zero, List.drop_succ_cons, List.drop_zero]
  have c1 : w1.drew.cell? ⟨r, d, none⟩ = some (U x1) := c1
  have c2 : w1.drew.cell? ⟨r, a, none⟩ = some (U x2) := c2
  repeat (go_big_quiet_step (fail))
  refine wpQuiet_step (fun K hK => ?_)
  go_simp
  refine ⟨U (rotlU (x1 ^^^ x2) 16), rotl_p _ 16 _ _ rfl (by decide), hK _ ?_⟩
  clear hK K
  repeat (go_big_quiet_step (fail))
  refine wpQuiet_nil ?_
  go_wp2
  have hA' : ArrU (w1.setCell ⟨r, d, none⟩ (U (rotlU (x1 ^^^ x2) 16))).drew r 253 (rotX S1 d a 16) := by show ArrU (w1.setCell ⟨r, d, none⟩ (U (rotlU (x1 ^^^ x2) 16))) r 253 _; unfold rotX; rw [← HX.out.1, ← HX.out.2]; exact H1.out.1.set _ _
  have hO' := (H1.out.2.1.setCell ⟨r, d, none⟩ (U (rotlU (x1 ^^^ x2) 16)) (.inl rfl)).drew
  have hl' : (rotX S1 d a 16).length = 16 := (rotX_len S1 d a 16).trans H1.out.2.2
  generalize hS2 : rotX S1 d a 16 = S2 at hA' hl'
  have HS2 := Lib.hid hS2
  clear c1 c2 f1 HX H1 hS2
  generalize (w1.setCell ⟨r, d, none⟩ (U (rotlU (x1 ^^^ x2) 16))).drew = w2 at *
  have H2 := Lib.hid (And.intro hA' (And.intro hO' hl'))
  clear hA' hO' hl'
  go_upto_region 2 with (fail)
  obtain ⟨x1, hx1⟩ : ∃ x, x = (S2).getD c 0 := ⟨_, rfl⟩
  obtain ⟨x2, hx2⟩ : ∃ x, x = (S2).getD d 0 := ⟨_, rfl⟩
  have c1 := H2.out.1.g c (by rw [H2.out.2.2]; omega)
  have c2 := H2.out.1.g d (by rw [H2.out.2.2]; omega)
  have f1 := H2.out.1.fr c
  rw [← hx1] at c1
  rw [← hx2] at c2
  have HX := Lib.hid (And.intro hx1 hx2)
  clear hx1 hx2
  go_region
  have hA' : ArrU (w2.setCell ⟨r, c, none⟩ (U (x1 + x2))).drew r 253 (addU S2 c d) := by show ArrU (w2.setCell ⟨r, c, none⟩ (U (x1 + x2))) r 253 _; unfold addU; rw [← HX.out.1, ← HX.out.2]; exact H2.out.1.set _ _
  have hO' := (H2.out.2.1.setCell ⟨r, c, none⟩ (U (x1 + x2)) (.inl rfl)).drew
  have hl' : (addU S2 c d).length = 16 := (addU_len S2 c d).trans H2.out.2.2
  generalize hS3 : addU S2 c d = S3 at hA' hl'
  have HS3 := Lib.hid hS3
  clear c1 c2 f1 HX H2 hS3
  generalize (w2.setCell ⟨r, c, none⟩ (U (x1 + x2))).drew = w3 at *
  have H3 := Lib.hid (And.intro hA' (And.intro hO' hl'))
  clear hA' hO' hl'
  go_upto_region 3 with (fail)
  obtain ⟨x1, hx1⟩ : ∃ x, x = (S3).getD b 0 := ⟨_, rfl⟩
  obtain ⟨x2, hx2⟩ : ∃ x, x = (S3).getD c 0 := ⟨_, rfl⟩
  have c1 := H3.out.1.g b (by rw [H3.out.2.2]; omega)
  have c2 := H3.out.1.g c (by rw [H3.out.2.2]; omega)
  have f1 := H3.out.1.fr b
  rw [← hx1] at c1
  rw [← hx2] at c2
  have HX := Lib.hid (And.intro hx1 hx2)
  clear hx1 hx2
  refine region_tailQ 16 (by kernel_rfl) (by kernel_rfl) ?_
  simp only [List.take_succ_cons, List.take_zero, List.drop_succ_cons, List.drop_zero]
  have c1 : w3.drew.cell? ⟨r, b, none⟩ = some (U x1) := c1
  have c2 : w3.drew.cell? ⟨r, c, none⟩ = some (U x2) := c2
  repeat (go_big_quiet_step (fail))
  refine wpQuiet_step (fun K hK => ?_)
  go_simp
  refine ⟨U (rotlU (x1 ^^^ x2) 12), rotl_p _ 12 _ _ rfl (by decide), hK _ ?_⟩
  clear hK K
  repeat (go_big_quiet_step (fail))
  refine wpQuiet_nil ?_
  go_wp2
  have hA' : ArrU (w3.setCell ⟨r, b, none⟩ (U (rotlU (x1 ^^^ x2) 12))).drew r 253 (rotX S3 b c 12) := by show ArrU (w3.setCell ⟨r, b, none⟩ (U (rotlU (x1 ^^^ x2) 12))) r 253 _; unfold rotX; rw [← HX.out.1, ← HX.out.2]; exact H3.out.1.set _ _
  have hO' := (H3.out.2.1.setCell ⟨r, b, none⟩ (U (rotlU (x1 ^^^ x2) 12)) (.inl rfl)).drew
  have hl' : (rotX S3 b c 12).length = 16 := (rotX_len S3 b c 12).trans H3.out.2.2
  generalize hS4 : rotX S3 b c 12 = S4 at hA' hl'
  have HS4 := Lib.hid hS4
  clear c1 c2 f1 HX H3 hS4
  generalize (w3.setCell ⟨r, b, none⟩ (U (rotlU (x1 ^^^ x2) 12))).drew = w4 at *
  have H4 := Lib.hid (And.intro hA' (And.intro hO' hl'))
  clear hA' hO' hl'
  go_upto_region 4 with (fail)
  obtain ⟨x1, hx1⟩ : ∃ x, x = (S4).getD a 0 := ⟨_, rfl⟩
  obtain ⟨x2, hx2⟩ : ∃ x, x = (S4).getD b 0 := ⟨_, rfl⟩
  have c1 := H4.out.1.g a (by rw [H4.out.2.2]; omega)
  have c2 := H4.out.1.g b (by rw [H4.out.2.2]; omega)
  have f1 := H4.out.1.fr a
  rw [← hx1] at c1
  rw [← hx2] at c2
  have HX := Lib.hid (And.intro hx1 hx2)
  clear hx1 hx2
  go_region
  have hA' : ArrU (w4.setCell ⟨r, a, none⟩ (U (x1 + x2))).drew r 253 (addU S4 a b) := by show ArrU (w4.setCell ⟨r, a, none⟩ (U (x1 + x2))) r 253 _; unfold addU; rw [← HX.out.1, ← HX.out.2]; exact H4.out.1.set _ _
  have hO' := (H4.out.2.1.setCell ⟨r, a, none⟩ (U (x1 + x2)) (.inl rfl)).drew
  have hl' : (addU S4 a b).length = 16 := (addU_len S4 a b).trans H4.out.2.2
  generalize hS5 : addU S4 a b = S5 at hA' hl'
  have HS5 := Lib.hid hS5
  clear c1 c2 f1 HX H4 hS5
  generalize (w4.setCell ⟨r, a, none⟩ (U (x1 + x2))).drew = w5 at *
  have H5 := Lib.hid (And.intro hA' (And.intro hO' hl'))
  clear hA' hO' hl'
  go_upto_region 5 with (fail)
  obtain ⟨x1, hx1⟩ : ∃ x, x = (S5).getD d 0 := ⟨_, rfl⟩
  obtain ⟨x2, hx2⟩ : ∃ x, x = (S5).getD a 0 := ⟨_, rfl⟩
  have c1 := H5.out.1.g d (by rw [H5.out.2.2]; omega)
  have c2 := H5.out.1.g a (by rw [H5.out.2.2]; omega)
  have f1 := H5.out.1.fr d
  rw [← hx1] at c1
  rw [← hx2] at c2
  have HX := Lib.hid (And.intro hx1 hx2)
  clear hx1 hx2
  refine region_tailQ 16 (by kernel_rfl) (by kernel_rfl) ?_
  simp only [List.take_succ_cons, List.take_zero, List.drop_succ_cons, List.drop_zero]
  have c1 : w5.drew.cell? ⟨r, d, none⟩ = some (U x1) := c1
  have c2 : w5.drew.cell? ⟨r, a, none⟩ = some (U x2) := c2
  repeat (go_big_quiet_step (fail))
  refine wpQuiet_step (fun K hK => ?_)
  go_simp
  refine ⟨U (rotlU (x1 ^^^ x2) 8), rotl_p _ 8 _ _ rfl (by decide), hK _ ?_⟩
  clear hK K
  repeat (go_big_quiet_step (fail))
  refine wpQuiet_nil ?_
  go_wp2
  have hA' : ArrU (w5.setCell ⟨r, d, none⟩ (U (rotlU (x1 ^^^ x2) 8))).drew r 253 (rotX S5 d a 8) := by show ArrU (w5.setCell ⟨r, d, none⟩ (U (rotlU (x1 ^^^ x2) 8))) r 253 _; unfold rotX; rw [← HX.out.1, ← HX.out.2]; exact H5.out.1.set _ _
  have hO' := (H5.out.2.1.setCell ⟨r, d, none⟩ (U (rotlU (x1 ^^^ x2) 8)) (.inl rfl)).drew
  have hl' : (rotX S5 d a 8).length = 16 := (rotX_len S5 d a 8).trans H5.out.2.2
  generalize hS6 : rotX S5 d a 8 = S6 at hA' hl'
  have HS6 := Lib.hid hS6
  clear c1 c2 f1 HX H5 hS6
  generalize (w5.setCell ⟨r, d, none⟩ (U (rotlU (x1 ^^^ x2) 8))).drew = w6 at *
  have H6 := Lib.hid (And.intro hA' (And.intro hO' hl'))
  clear hA' hO' hl'
  go_upto_region 6 with (fail)
  obtain ⟨x1, hx1⟩ : ∃ x, x = (S6).getD c 0 := ⟨_, rfl⟩
  obtain ⟨x2, hx2⟩ : ∃ x, x = (S6).getD d 0 := ⟨_, rfl⟩
  have c1 := H6.out.1.g c (by rw [H6.out.2.2]; omega)
  have c2 := H6.out.1.g d (by rw [H6.out.2.2]; omega)
  have f1 := H6.out.1.fr c
  rw [← hx1] at c1
  rw [← hx2] at c2
  have HX := Lib.hid (And.intro hx1 hx2)
  clear hx1 hx2
  go_region
  have hA' : ArrU (w6.setCell ⟨r, c, none⟩ (U (x1 + x2))).drew r 253 (addU S6 c d) := by show ArrU (w6.setCell ⟨r, c, none⟩ (U (x1 + x2))) r 253 _; unfold addU; rw [← HX.out.1, ← HX.out.2]; exact H6.out.1.set _ _
  have hO' := (H6.out.2.1.setCell ⟨r, c, none⟩ (U (x1 + x2)) (.inl rfl)).drew
  have hl' : (addU S6 c d).length = 16 := (addU_len S6 c d).trans H6.out.2.2
  generalize hS7 : addU S6 c d = S7 at hA' hl'
  have HS7 := Lib.hid hS7
  clear c1 c2 f1 HX H6 hS7
  generalize (w6.setCell ⟨r, c, none⟩ (U (x1 + x2))).drew = w7 at *
  have H7 := Lib.hid (And.intro hA' (And.intro hO' hl'))
  clear hA' hO' hl'
  go_upto_region 7 with (fail)
  obtain ⟨x1, hx1⟩ : ∃ x, x = (S7).getD b 0 := ⟨_, rfl⟩
  obtain ⟨x2, hx2⟩ : ∃ x, x = (S7).getD c 0 := ⟨_, rfl⟩
  have c1 := H7.out.1.g b (by rw [H7.out.2.2]; omega)
  have c2 := H7.out.1.g c (by rw [H7.out.2.2]; omega)
  have f1 := H7.out.1.fr b
  rw [← hx1] at c1
  rw [← hx2] at c2
  have HX := Lib.hid (And.intro hx1 hx2)
  clear hx1 hx2
  refine region_tailQ 16 (by kernel_rfl) (by kernel_rfl) ?_
  simp only [List.take_succ_cons, List.take_zero, List.drop_succ_cons, List.drop_zero]
  have c1 : w7.drew.cell? ⟨r, b, none⟩ = some (U x1) := c1
  have c2 : w7.drew.cell? ⟨r, c, none⟩ = some (U x2) := c2
  repeat (go_big_quiet_step (fail))
  refine wpQuiet_step (fun K hK => ?_)
  go_simp
  refine ⟨U (rotlU (x1 ^^^ x2) 7), rotl_p _ 7 _ _ rfl (by decide), hK _ ?_⟩
  clear hK K
  repeat (go_big_quiet_step (fail))
  refine wpQuiet_nil ?_
  go_wp2
  have hA' : ArrU (w7.setCell ⟨r, b, none⟩ (U (rotlU (x1 ^^^ x2) 7))).drew r 253 (rotX S7 b c 7) := by show ArrU (w7.setCell ⟨r, b, none⟩ (U (rotlU (x1 ^^^ x2) 7))) r 253 _; unfold rotX; rw [← HX.out.1, ← HX.out.2]; exact H7.out.1.set _ _
  have hO' := (H7.out.2.1.setCell ⟨r, b, none⟩ (U (rotlU (x1 ^^^ x2) 7)) (.inl rfl)).drew
  have hl' : (rotX S7 b c 7).length = 16 := (rotX_len S7 b c 7).trans H7.out.2.2
  generalize hS8 : rotX S7 b c 7 = S8 at hA' hl'
  have HS8 := Lib.hid hS8
  clear c1 c2 f1 HX H7 hS8
  generalize (w7.setCell ⟨r, b, none⟩ (U (rotlU (x1 ^^^ x2) 7))).drew = w8 at *
  have H8 := Lib.hid (And.intro hA' (And.intro hO' hl'))
  clear hA' hO' hl'
  go_end0
  refine ⟨rfl, ?_, by repeat (first | exact H8.out.2.1 | refine Only.drew ?_)⟩
  have e : qtr s a b c d = S8 := by unfold qtr; rw [HS1.out, HS2.out, HS3.out, HS4.out, HS5.out, HS6.out, HS7.out, HS8.out]
  rw [e]
  exact H8.out.1

theorem quarter_i (r : Nat) (s : List UInt32) (a b c d : Nat) (x y z u : Int) (w : World) (hx : x = (a : Int)) (hy : y = (b : Int)) (hz : z = (c : Int)) (hu : u = (d : Int)) (hA : ArrU w r 253 s) (hs : s.length = 16) (ha : a < 16) (hb : b < 16) (hc : c < 16) (hd : d < 16) :
    Calls Tryz.prog 174 #[rp r, .int .i64 x, .int .i64 y, .int .i64 z, .int .i64 u] w (StU w r (qtr s a b c d)) := by
  subst hx hy hz hu
  exact quarter_c r s a b c d w hA hs ha hb hc hd
/-- At the head of the loop over the columns. -/
def MixRel (w : World) (r : Nat) (s : List UInt32) (v3 : Value) (wr : World) : Prop := ∃ i : Nat, v3 = .int .i64 (i : Int) ∧ i ≤ 4 ∧ ArrU wr r 253 (colK s i) ∧ Only (· = r) w wr
set_option maxHeartbeats 8000000 in
theorem mix_state (r : Nat) (s : List UInt32) (w : World) (hA : ArrU w r 253 s) (hs : s.length = 16) :
    Calls Tryz.prog 162 #[rp r] w (StU w r (mixF s)) := by
  have HS := Lib.hid hs
  have HA := Lib.hid hA
  clear hA hs
  go_enter Tryz.func162, Tryz.ntmps162
  go_wp2
  go_loopw [3] (fun v3 wr => MixRel w r s v3 wr) (fun v3 _ => (4 - intOf v3).toNat)
  case atStart => exact ⟨0, rfl, by omega, HA.out, Only.refl _ _⟩
  case round =>
    obtain ⟨i, rfl, hi, hA, hO⟩ := hrel
    have HB := Lib.hid (And.intro hA hO)
    clear hA hO
    by_cases hlt : i < 4
    · have hl : (i : Int) < 4 := by omega
      have e1 : IntKind.i64.wrap (4 + (i : Int)) = 4 + (i : Int) := IntWalk.i64_in _ (by omega)
      have e2 : IntKind.i64.wrap (8 + (i : Int)) = 8 + (i : Int) := IntWalk.i64_in _ (by omega)
      have e3 : IntKind.i64.wrap (12 + (i : Int)) = 12 + (i : Int) := IntWalk.i64_in _ (by omega)
      go_wp2_with (go_at_call 174; refine (quarter_i r (colK s i) i (4 + i) (8 + i) (12 + i) _ _ _ _ wr rfl (by omega) (by omega) (by omega) HB.out.1 (by rw [colK_len]; exact HS.out) (by omega) (by omega) (by omega) (by omega)).mono ?_; rintro en w1 ⟨rfl, hA1, hO1⟩; have H1 := Lib.hid (And.intro hA1 (HB.out.2.then hO1)); clear hA1 hO1)
      refine ⟨⟨i + 1, by simp, by omega, H1.out.1, H1.out.2⟩, by simp [intOf]; omega⟩
    · have hn : ¬ (i : Int) < 4 := by omega
      have hA4 : ArrU wr r 253 (colK s 4) := by have := HB.out.1; rwa [show i = 4 by omega] at this
      have h4l : (colK s 4).length = 16 := (colK_len _ _).trans HS.out
      have hm : mixF s = qtr (qtr (qtr (qtr (colK s 4) 0 5 10 15) 1 6 11 12) 2 7 8 13) 3 4 9 14 := rfl
      generalize colK s 4 = S4 at hA4 h4l hm
      have HM := Lib.hid hm
      have H4 := Lib.hid (And.intro hA4 (And.intro HB.out.2 h4l))
      clear hA4 h4l hm HB
      go_upto_region 6 with (go_at_call 174; refine (quarter_i r S4 0 5 10 15 _ _ _ _ wr rfl rfl rfl rfl H4.out.1 H4.out.2.2 (by decide) (by decide) (by decide) (by decide)).mono ?_; rintro en w1 ⟨rfl, hA1, hO1⟩; have H5 := Lib.hid (And.intro hA1 (And.intro (H4.out.2.1.then hO1) (show (qtr S4 0 5 10 15).length = 16 from (qtr_len _ _ _ _ _).trans H4.out.2.2))); clear hA1 hO1)
      clear H4
      generalize qtr S4 0 5 10 15 = S5 at *
      go_upto_region 7 with (go_at_call 174; refine (quarter_i r S5 1 6 11 12 _ _ _ _ w1 rfl rfl rfl rfl H5.out.1 H5.out.2.2 (by decide) (by decide) (by decide) (by decide)).mono ?_; rintro en w2 ⟨rfl, hA1, hO1⟩; have H6 := Lib.hid (And.intro hA1 (And.intro (H5.out.2.1.then hO1) (show (qtr S5 1 6 11 12).length = 16 from (qtr_len _ _ _ _ _).trans H5.out.2.2))); clear hA1 hO1)
      clear H5
      generalize qtr S5 1 6 11 12 = S6 at *
      go_upto_region 8 with (go_at_call 174; refine (quarter_i r S6 2 7 8 13 _ _ _ _ w2 rfl rfl rfl rfl H6.out.1 H6.out.2.2 (by decide) (by decide) (by decide) (by decide)).mono ?_; rintro en w3 ⟨rfl, hA1, hO1⟩; have H7 := Lib.hid (And.intro hA1 (And.intro (H6.out.2.1.then hO1) (show (qtr S6 2 7 8 13).length = 16 from (qtr_len _ _ _ _ _).trans H6.out.2.2))); clear hA1 hO1)
      clear H6
      generalize qtr S6 2 7 8 13 = S7 at *
      go_wp2_with (go_at_call 174; refine (quarter_i r S7 3 4 9 14 _ _ _ _ w3 rfl rfl rfl rfl H7.out.1 H7.out.2.2 (by decide) (by decide) (by decide) (by decide)).mono ?_; rintro en w4 ⟨rfl, hA1, hO1⟩; have H8 := Lib.hid (And.intro hA1 (H7.out.2.1.then hO1)); clear hA1 hO1)
      go_end0
      exact ⟨rfl, by rw [HM.out]; exact H8.out.1, H8.out.2⟩
end Go.Proofs.YtolgaapiedbkfaaGreat
/-
  The contract of chacha's words. Conditions: those of the theorem.
-/
namespace Go.Proofs.YtolgaapiedbkfaaGreat
open Go.RowKit Go.Kx Go.Shelf
set_option linter.unusedVariables false
set_option linter.unusedSimpArgs false
set_option maxRecDepth 100000
attribute [local go_sem] Oper.semAt_some
attribute [local go_sem ↓] U_add U_mul U_xor U_or U_and U_not U_guard1 U_guard2 U_store exec_stU
attribute [local go_sem ↓] exec_bsU
attribute [local go_sem] st1_U st1_i bs1_U U_cells U_one
theorem info32 : (Tryz.prog.info? 173).map (fun i => (i.zero, i.size, i.bytes)) = some (some (.int .u32 0), 1, 4) := by kernel_rfl
/-- A new row of words. -/
def WordsR (w : World) (l : List UInt32) (e : Ending) (w' : World) : Prop := ∃ v, e = .returned v ∧ w'.ownsRow w.heap.size 173 1 v l.length (l.map U) ∧ Below w.heap.size w w'
/-- What the variables hold when some parts have come. -/
def WI (w : World) (g o len cap : Nat) (b : List UInt8) (pre : List (PartOf 4 len)) (W : World) : Prop :=
  ((∃ v, Boxed W w.heap.size 192 v ∧ W.ownsRow w.heap.size 173 1 v pre.length (pre.map (fun x => U (wordF (partL 4 b x.1)))) ∧ True) ∧ (Boxed W (w.heap.size + 1) 38 (.slice (some ⟨g, o, none⟩) len cap) ∧ Boxed W (w.heap.size + 1 + 1) 3 (.int .i64 4))) ∧ Below w.heap.size w W
theorem WI.own {w : World} {g o len cap : Nat} {b : List UInt8} {B : Nat} (hb : w.heap.size + 3 ≤ B) : OwnFrom B (WI w g o len cap b) := by
  have hboxed : ∀ (B t : Nat) (v : Value), Own (fun (_ : List (PartOf 4 len)) W => Boxed W B t v) := fun B t v s X Y row hv hg hrow => hv.kept hg (fun e' => by
    obtain ⟨o, ho, hc⟩ := hrow B e'.symm
    rw [show X.heap[B]? = _ from hv] at ho
    cases ho; cases hc)
  exact OwnFrom.and (OwnFrom.and (Own.from (holdsRow_own w.heap.size w.heap.size 192 173 1 (fun (pre : List (PartOf 4 len)) => pre.length) (fun (pre : List (PartOf 4 len)) => pre.map (fun x => U (wordF (partL 4 b x.1)))) (fun _ _ => True)) _) (OwnFrom.and (Own.from (hboxed _ _ _) _) (Own.from (hboxed _ _ _) _))) (ownFrom_below (Nat.le_refl _) (by omega))
set_option maxHeartbeats 8000000 in
theorem words_in (F : Fence) (n : Nat) (h1 : F.fn 161) (h2 : F.fn 128) (h3 : F.fn 155) (hro : F.round = none) (hn : 6 ≤ n) (S : Nat → Prop) (g o len cap : Nat) (b : List UInt8) (w : World)
    (hR : Rd w S (some ⟨g, o, none⟩) b) (hg : g < w.heap.size) (hl : b.length = len) (h4 : len % 4 = 0) (hlb : len ≤ 64) (hlc : len ≤ cap) (hcb : cap ≤ 4611686018427387904) :
    CallsIn F n Tryz.prog 161 #[.slice (some ⟨g, o, none⟩) len cap] w (WordsR w (wordsF b)) := by
  have hn1 : 1 ≤ n := by omega
  obtain ⟨i0, hi, hz0, hz1, hz2⟩ := info_parts info32
  refine callsIn_of_wp_marks Tryz.func161 rfl h1 ?_ hro
  simp only [Tryz.ntmps161, List.size_toArray, List.length_cons, List.length_nil, Nat.reduceAdd, Nat.reduceSub, Array.replicate_succ, Array.replicate_zero, List.push_toArray, List.append_toArray, List.nil_append, List.cons_append]
  gi_wp2_with (gi_at_call 128; refine (chunk_in F (n - 1) h2 hro _ _ _ 4 (by decide) _).mono ?_; rintro e w' ⟨rfl, rfl⟩)
  have bO : Boxed (((w.alloc (.cells #[.slice none 0 0] 192)).alloc (.cells #[.slice (some ⟨g, o, none⟩) len cap] 38)).alloc (.cells #[.int .i64 4] 3)) w.heap.size 192 (.slice none 0 0) := ((Boxed.new w 192 (.slice none 0 0)).alloc _).alloc _
  have bS : Boxed (((w.alloc (.cells #[.slice none 0 0] 192)).alloc (.cells #[.slice (some ⟨g, o, none⟩) len cap] 38)).alloc (.cells #[.int .i64 4] 3)) (w.heap.size + 1) 38 (.slice (some ⟨g, o, none⟩) len cap) := by
    have := (Boxed.new (w.alloc (.cells #[.slice none 0 0] 192)) 38 (.slice (some ⟨g, o, none⟩) len cap)).alloc (.cells #[.int .i64 4] 3)
    rwa [World.size_alloc] at this
  have bN : Boxed (((w.alloc (.cells #[.slice none 0 0] 192)).alloc (.cells #[.slice (some ⟨g, o, none⟩) len cap] 38)).alloc (.cells #[.int .i64 4] 3)) (w.heap.size + 1 + 1) 3 (.int .i64 4) := by
    have := Boxed.new ((w.alloc (.cells #[.slice none 0 0] 192)).alloc (.cells #[.slice (some ⟨g, o, none⟩) len cap] 38)) 3 (.int .i64 4)
    rwa [World.size_alloc, World.size_alloc] at this
  have hB0 : Below w.heap.size w (((w.alloc (.cells #[.slice none 0 0] 192)).alloc (.cells #[.slice (some ⟨g, o, none⟩) len cap] 38)).alloc (.cells #[.int .i64 4] 3)) := (((Below.refl _ w).alloc (Nat.le_refl _) _).alloc (by simp) _).alloc (by simp; omega) _
  have hsz0 : (((w.alloc (.cells #[.slice none 0 0] 192)).alloc (.cells #[.slice (some ⟨g, o, none⟩) len cap] 38)).alloc (.cells #[.int .i64 4] 3)).heap.size = w.heap.size + 3 := by simp
  generalize (((w.alloc (.cells #[.slice none 0 0] 192)).alloc (.cells #[.slice (some ⟨g, o, none⟩) len cap] 38)).alloc (.cells #[.int .i64 4] 3)) = W0 at *
  have hsz1 : w.heap.size + 3 ≤ W0.heap.size := by omega
  clear hsz0
  refine wpIn_rangeFunc_ownG hro hn1 (gf := 155) (lb := #[rp (w.heap.size + 1), rp (w.heap.size + 1 + 1)]) rfl h3 (enters_of Tryz.func155 (by kernel_rfl) rfl)
    (chunk_stops F (n - 1) h3 hro (by omega) (w.heap.size + 1) (w.heap.size + 1 + 1) g o len cap 4 (by decide) (by decide) hlc (by omega) W0 bS bN) KeepC.t (fun W l o o' _ h1 h2 _ => KeepC.b W l o o' h1 h2) (Below.refl _ _) (fun _ => rfl)
    (WI w g o len cap b)
    (fun _ _ _ => False)
    (WI.own (by omega))
    (fun _ _ _ _ _ hs _ _ => hs)
    ⟨⟨⟨_, bO, World.ownsRow_nil _ _ _ _, trivial⟩, bS, bN⟩, hB0⟩
    (fun x => { tmps := #[.slice (some ⟨g, o, none⟩) len cap, undef, .slice none 0 0, .pointer (some ⟨w.heap.size, 0, none⟩), .slice (some ⟨g, o + 4 * x.1, none⟩) (min 4 (len - 4 * x.1)) (min 4 (len - 4 * x.1)), undef, undef, undef, .slice (some ⟨g, o, none⟩) len cap, .func (.func 155) #[] #[rp (w.heap.size + 1), rp (w.heap.size + 1 + 1)], .slice (some ⟨g, o + 4 * x.1, none⟩) (min 4 (len - 4 * x.1)) (min 4 (len - 4 * x.1)), undef, undef, undef, undef, undef, undef, undef, undef, undef, undef, undef, undef, undef, undef, undef, undef, undef, undef, undef, undef], defers := [] }) ?assign ?body ?done ?stop
  case assign =>
    intro l x W K hK
    unfold encPart
    gi_wp2
    exact hK
  case body =>
    rintro l pre x W ⟨⟨⟨v, hv, hrow, -⟩, hvs, hvn⟩, hB⟩ hlt
    have hx := x.2
    have hx4 : 4 * x.1 + 4 ≤ len := by unfold partsN at hx; omega
    have hm : min 4 (len - 4 * x.1) = 4 := by omega
    rw [hm]
    have hP : (partL 4 b x.1).length = 4 := by unfold partL; rw [List.length_take, List.length_drop]; omega
    have hPR : Rd W S (some ⟨g, o + 4 * x.1, none⟩) (partL 4 b x.1) := by
      have h7 : Rd W S (some ⟨g, o, none⟩) b := hR.below hB
      unfold partL
      exact rd_take (rd_drop h7) 4
    obtain ⟨P, hPe⟩ : ∃ P, P = partL 4 b x.1 := ⟨_, rfl⟩
    rw [← hPe] at hP hPR
    obtain ⟨O, hO⟩ : ∃ O, O = o + 4 * x.1 := ⟨_, rfl⟩
    rw [← hO] at hPR ⊢
    have HP := Lib.hid (And.intro hPe (And.intro hP hPR))
    have HV := Lib.hid (And.intro hv (And.intro hrow (And.intro hvs (And.intro hvn hB))))
    clear hPe hO hm hP hPR hv hrow hvs hvn hx hx4
    gi_wp2
    gi_loopw [5, 13] (fun v5 v13 wr => ∃ i : Nat, v13 = .int .i64 (i : Int) ∧ v5 = U (wordK P i) ∧ i ≤ 4 ∧ wr = W) (fun v5 v13 _ => (4 - intOf v13).toNat)
    case atStart => exact ⟨0, rfl, rfl, by omega, rfl⟩
    case round =>
      obtain ⟨i, rfl, rfl, hii, hwr⟩ := hrel
      subst hwr
      by_cases hi4 : i < 4
      · have hil : i < P.length := by rw [HP.out.2.1]; exact hi4
        obtain ⟨a, ha, _, hca⟩ := HP.out.2.2 i hil
        cases ha
        have hadd : (⟨g, O, none⟩ : Addr).add i = ⟨g, O + i, none⟩ := by unfold Addr.add; split <;> simp_all
        rw [hadd] at hca
        obtain ⟨B, hBd⟩ : ∃ B : UInt8, B = P[i]'hil := ⟨_, rfl⟩
        rw [← hBd] at hca
        have hca' : wr.cell? ⟨g, O + i, none⟩ = some (.int .u8 (B.toNat : Int)) := hca
        have hst : wordK P (i + 1) = wordK P i ||| shl32 B.toUInt32 (8 * i) := by
          rw [wordK, List.getD_eq_getElem?_getD, List.getElem?_eq_getElem hil, ← hBd]
          rfl
        have HST := Lib.hid hst
        have k1 : (i : Int) < 4 := by omega
        have k2 : IntKind.i64.wrap (8 * (i : Int)) = 8 * (i : Int) := IntWalk.i64_in _ (by omega)
        have k3 : IntKind.i64.wrap ((i : Int) + 1) = ((i + 1 : Nat) : Int) := IntWalk.i64_in _ (by omega)
        have hsh : ∀ wx, (binOp .shl 173 (U B.toUInt32) (.int .i64 (8 * (i : Int)))).run Tryz.prog wx = .ok (U (shl32 B.toUInt32 (8 * i))) wx := fun wx => by
          have h := U_shl (P := Tryz.prog) (w := wx) (t := 173) (x := B.toUInt32) .i64 (8 * (i : Int)) (by omega)
          rwa [show (8 * (i : Int)).toNat = 8 * i by omega] at h
        have cv := cvB32
        clear hca hst hBd hadd hil
        gi_wp2
        go_roundw
        case rel => exact ⟨i + 1, by simp, by rw [HST.out], by omega, trivial⟩
        case measure => simp [intOf]; omega
      · have k1 : ¬ (i : Int) < 4 := by omega
        obtain ⟨X, hX⟩ : ∃ X, X = wordK P i := ⟨_, rfl⟩
        have hX4 : X = wordF (partL 4 b x.1) := by rw [hX, ← HP.out.1]; unfold wordF; rw [HP.out.2.1, show i = 4 by omega]
        rw [← hX, U_def X]
        have HX := Lib.hid hX4
        clear hX hX4 hi4
        have hc := HV.out.1.cell
        have hf := HV.out.1.frozen
        have hplen : pre.length < partsN 4 len := hlt
        have hp16 : partsN 4 len ≤ 16 := by unfold partsN; omega
        gi_wp2_with (gi_at_builtin; go_loud (refine wpListIn_append_own _ rfl _ _ 192 rfl w.heap.size 173 i0 (.int .u32 0) 1 4 Tryz.underlying192 hi hz0 hz1 hz2 rfl (by decide) _ _ _ rfl (HV.out.2.1.alloc _) ⟨wr.heap.size, 0, none⟩ 1 1 [.int .u32 (X.toNat : Int)] rfl rfl (cell_one_new _ _ _) (by intro u hu; rw [List.mem_singleton] at hu; subst hu; rfl) (by unfold maxLen; omega) (by omega) (by have := HV.out.2.2.2.2.size; simp; omega) ?_; intro v' w1 hown' hgrow _; obtain ⟨g', cap', rfl⟩ := ownsRow_succ hown'; obtain ⟨hv1, hv2, hr2, hk2, hb2⟩ := HV.out.1.appended (by decide) HV.out.2.1 HV.out.2.2.2.2.size (Nat.le_refl _) hown' hgrow; have hc1 := hv1.cell; have hf1 := hv1.frozen))
        have s1 := (HV.out.2.2.1.alloc _).kept hgrow (HV.out.2.2.1.not_row (by decide) HV.out.2.1)
        have s2 := (HV.out.2.2.2.1.alloc _).kept hgrow (HV.out.2.2.2.1.not_row (by decide) HV.out.2.1)
        have s3 : Boxed (w1.setCell ⟨w.heap.size, 0, none⟩ (.slice (some ⟨g', 0, none⟩) (pre.length + 1) cap')) (w.heap.size + 1) 38 (.slice (some ⟨g, o, none⟩) len cap) := s1.other (by omega) _
        have s4 : Boxed (w1.setCell ⟨w.heap.size, 0, none⟩ (.slice (some ⟨g', 0, none⟩) (pre.length + 1) cap')) (w.heap.size + 1 + 1) 3 (.int .i64 4) := s2.other (by omega) _
        refine ⟨hk2.from _, ?_, (show WI w g o len cap b (pre ++ [x]) _ from ⟨⟨⟨_, hv2, ?_, trivial⟩, s3, s4⟩, HV.out.2.2.2.2.trans hb2⟩)⟩
        · rintro k ob (rfl | rfl) h1 _
          · rw [show wr.heap[_]? = _ from HV.out.2.2.1] at h1
            cases h1
            exact s3
          · rw [show wr.heap[_]? = _ from HV.out.2.2.2.1] at h1
            cases h1
            exact s4
        · rw [List.length_append, List.map_append, List.map_singleton, ← HX.out]
          exact hr2
  case done =>
    rintro D ys W hD hys ⟨⟨⟨v, hv, hrow, -⟩, hvs, hvn⟩, hB⟩ hK
    have hc := hv.cell
    gi_wp2
    refine ⟨by simp, .inl ⟨_, _, rfl, run_takeDeferred hK, ?_⟩⟩
    refine ⟨_, results_tmp rfl _ _ _, v, rfl, ?_, hB.trans (belowK_b (w := w) (Nat.le_refl _) W D _ _ (by omega) hK rfl rfl)⟩
    have e : (wordsF b).map U = ys.map (fun x => U (wordF (partL 4 b x.1))) := by
      have h5 : partsN 4 len = b.length / 4 := by unfold partsN; omega
      have h6 : ys.map (fun x => U (wordF (partL 4 b x.1))) = ys.unattach.map (fun k => U (wordF (partL 4 b k))) := by unfold List.unattach; rw [List.map_map]; rfl
      rw [h6, hys, h5]
      unfold wordsF
      rw [List.map_map]
      rfl
    have e2 : (wordsF b).length = ys.length := by have := congrArg List.length e; simpa using this
    rw [e, e2]
    exact ownsRow_putObj hrow _ hK rfl
  case stop =>
    rintro D c pre W _ _ h _
    exact h.elim
end Go.Proofs.YtolgaapiedbkfaaGreat
