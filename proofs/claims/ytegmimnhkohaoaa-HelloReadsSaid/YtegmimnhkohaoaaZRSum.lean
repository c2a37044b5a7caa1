/-
  The contract of relayref01.Sum: what sha.Sum tells. Condition: at most 2 to the 47th bytes, less two thousand.
-/
import Derived.Test.YtegmimnhkohaoaaZg3
import Derived.Deep.CutBlock
import Derived.Deep.CutRange
namespace Go.Proofs.Ytegmimnhkohaoaa
open Go.RowKit Go.Kx
set_option linter.unusedVariables false
set_option linter.unusedSimpArgs false
attribute [local go_sem ↓] U_add U_mul U_xor U_or U_and U_not U_guard1 U_guard2 U_store exec_stU
attribute [local go_sem] st1_U st1_i
attribute [local go_sem ↓] D_add D_mul D_or D_and D_sub D_shl

def PadE (w : World) (b : List UInt8) (v3 : Value) (wr : World) : Prop := ∃ (g m c : Nat), v3 = .slice (some ⟨g, 0, none⟩) m c ∧ m = b.length + 1 + padZ b.length ∧ Own wr g (.slice (some ⟨g, 0, none⟩) m c) ((b ++ [128]) ++ List.replicate (padZ b.length) 0) ∧ w.heap.size ≤ g ∧ g < wr.heap.size ∧ Below w.heap.size w wr

def PadF (w : World) (b : List UInt8) (v3 : Value) (wr : World) : Prop := ∃ (g m c : Nat), v3 = .slice (some ⟨g, 0, none⟩) m c ∧ (padL b).length = m ∧ Own wr g (.slice (some ⟨g, 0, none⟩) m c) (padL b) ∧ w.heap.size ≤ g ∧ g < wr.heap.size ∧ m ≤ c ∧ c ≤ maxLen ∧ Below w.heap.size w wr

theorem refNext (a b c d : UInt32) : (rotr d 17 ^^^ rotr d 19 ^^^ shr32 d 10) + b + (rotr c 7 ^^^ rotr c 18 ^^^ shr32 c 3) + a = nextW a b c d := by
  unfold nextW
  generalize (rotr d 17 ^^^ rotr d 19 ^^^ shr32 d 10) = p
  generalize (rotr c 7 ^^^ rotr c 18 ^^^ shr32 c 3) = q
  ac_rfl
theorem quiet_onD {P : Program} {f : FuncId} {args : Array Value} {w : World} {a n : Nat} {v : Value} (h : Calls P f args (w.drewN (a + n)) fun e w' => e = .returned v ∧ ∃ m, w' = (w.drewN (a + n)).drewN m) :
    Calls P f args (w.drewN (a + n)) fun e w'' => e = .returned v ∧ ∃ m, w'' = w.drewN (a + m) := h.mono fun _ _ ⟨he, m, hm⟩ => ⟨he, n + m, by rw [hm, World.drewN_drewN, Nat.add_assoc]⟩
def RcRel (w5 : World) (rv : Nat) (SB s : List UInt32) (v15 : Value) (wr : World) : Prop := ∃ i : Nat, v15 = .int .i64 (i : Int) ∧ i ≤ 64 ∧ ArrU wr rv 143 (rnds SB refK s i) ∧ Only (fun k => k = rv) w5 wr
def RdRel (wb : World) (rh : Nat) (s V : List UInt32) (v18 : Value) (wr : World) : Prop := ∃ i : Nat, v18 = .int .i64 (i : Int) ∧ i ≤ 8 ∧ ArrU wr rh 143 (addK s V i) ∧ Only (fun k => k = rh) wb wr
/-- At the head of the loop over the blocks. -/
def RsRel (w3 : World) (M : List UInt8) (N rh : Nat) (v8 : Value) (wr : World) : Prop := ∃ j : Nat, v8 = .int .i64 ((64 * j : Nat) : Int) ∧ 64 * j ≤ N ∧ ArrU wr rh 143 (hashS M j) ∧ Only (fun k => k = rh) w3 wr

/-- The words behind so many rounds of the reference's loop. -/
def refW (b : List UInt8) (i : Nat) : List UInt32 := if i ≤ 16 then words b (4 * i) else schedK b (i - 16)
theorem refW_len (b : List UInt8) (i : Nat) : (refW b i).length = 64 := by unfold refW; split; exact words_len _ _; exact schedK_len _ _
theorem refW_64 (b : List UInt8) : refW b 64 = sched b := by unfold refW sched; rw [if_neg (by omega)]
theorem refW_16 (b : List UInt8) : refW b 16 = schedK b 0 := by unfold refW; rw [if_pos (by omega)]; rfl
/-- At the heads of the two loops that fill them. -/
def RwRel (wo : World) (b : List UInt8) (v10 : Value) (wr : World) : Prop := ∃ i : Nat, v10 = .int .i64 (i : Int) ∧ i ≤ 64 ∧ ArrU wr wo.heap.size 147 (refW b i) ∧ Below wo.heap.size wo wr
def RwRel2 (wo : World) (b : List UInt8) (i : Nat) (v11 : Value) (wr : World) : Prop := ∃ k : Nat, v11 = .int .i64 (k : Int) ∧ k ≤ 4 ∧ ArrU wr wo.heap.size 147 (words b (4 * i + k)) ∧ Below wo.heap.size wo wr
/-- Turned by a number or by a product. -/
theorem put_mul (x : UInt32) (c : UInt8) : x * 256 + c.toUInt32 = shl32 x 8 ||| c.toUInt32 := by
  apply UInt32.toNat_inj.1
  have h8 : c.toNat < 256 := c.toNat_lt
  have hx := x.toNat_lt
  have e1 : (shl32 x 8).toNat = (x.toNat % 16777216) * 256 := by
    unfold shl32
    rw [UInt32.toNat_ofNat']
    omega
  rw [UInt32.toNat_or, e1, UInt32.toNat_add, UInt32.toNat_mul, UInt8.toNat_toUInt32]
  have e2 : (x.toNat % 16777216) * 256 ||| c.toNat = (x.toNat % 16777216) * 256 + c.toNat := by
    have h := Nat.shiftLeft_add_eq_or_of_lt (b := c.toNat) (i := 8) h8 (x.toNat % 16777216)
    rw [Nat.shiftLeft_eq] at h
    exact h.symm
  rw [e2]
  show (x.toNat * 256 % 4294967296 + c.toNat) % 4294967296 = _
  omega

set_option maxHeartbeats 16000000 in
set_option maxRecDepth 100000 in
theorem rsum_c (S : Nat → Prop) (p : Option Addr) (n c : Nat) (b : List UInt8) (w : World) (hR : Rd w S p b) (hp : p = none → c = 0) (hl : b.length + 2000 ≤ 140737488355328) (hn : b.length = n) :
    Calls Try.prog 75 #[.slice p n c] w (SumR w (sumL b)) := by
  subst hn
  have HR := Lib.hid (And.intro hR hp)
  clear hR hp
  go_enter Try.func75, Try.ntmps75
  have hW0 : ∀ W, W = w.alloc (.cells #[.int .u8 0, .int .u8 0, .int .u8 0, .int .u8 0, .int .u8 0, .int .u8 0, .int .u8 0, .int .u8 0, .int .u8 0, .int .u8 0, .int .u8 0, .int .u8 0, .int .u8 0, .int .u8 0, .int .u8 0, .int .u8 0, .int .u8 0, .int .u8 0, .int .u8 0, .int .u8 0, .int .u8 0, .int .u8 0, .int .u8 0, .int .u8 0, .int .u8 0, .int .u8 0, .int .u8 0, .int .u8 0, .int .u8 0, .int .u8 0, .int .u8 0, .int .u8 0] 22) → ArrB W w.heap.size 22 (List.replicate 32 0) ∧ Below w.heap.size w W := by
    rintro W rfl
    exact ⟨(ArrB.new w 22 (List.replicate 32 0) : ArrB _ _ _ _), (Below.refl _ _).alloc (Nat.le_refl _) _⟩
  obtain ⟨W0, hWE⟩ : ∃ W0, W0 = w.alloc (.cells #[.int .u8 0, .int .u8 0, .int .u8 0, .int .u8 0, .int .u8 0, .int .u8 0, .int .u8 0, .int .u8 0, .int .u8 0, .int .u8 0, .int .u8 0, .int .u8 0, .int .u8 0, .int .u8 0, .int .u8 0, .int .u8 0, .int .u8 0, .int .u8 0, .int .u8 0, .int .u8 0, .int .u8 0, .int .u8 0, .int .u8 0, .int .u8 0, .int .u8 0, .int .u8 0, .int .u8 0, .int .u8 0, .int .u8 0, .int .u8 0, .int .u8 0, .int .u8 0] 22) := ⟨_, rfl⟩
  have H0 := Lib.hid (hW0 W0 hWE)
  have HE := Lib.hid hWE.symm
  clear hW0 hWE
  have hs0 : w.heap.size < W0.heap.size := H0.out.1.lt
  go_upto_region 1 with (fail)
  rw [HE.out]
  go_upto_block 0 with (first
    | (at_builtin; have hq := HO1.out.1; refine wpList_append_byte rfl _ _ 23 rfl Try.underlying23 Try.info5 g1 v1 b rfl hq 128 128 rfl rfl (by omega) ?_; intro g2 c2 w2 ho2 hg2 hl2 hc2 hm2 hO2; clear hq)
    | (at_builtin; refine wpList_append_bytes _ rfl _ _ 23 rfl Try.underlying23 Try.info5 W0.heap.size _ [] rfl (Own.new W0) S _ _ _ b rfl rfl HR.out.2 ((HR.out.1.below H0.out.2).below ((Below.refl _ _).alloc (Nat.le_refl _) (.cells #[] 5))) (by simp; omega) ?_; intro g1 v1 w1 ho1 hg1 hO1 hnil1; have HO1 := Lib.hid (And.intro ho1 (And.intro hO1 hg1)); clear hnil1 ho1 hO1 hg1))
  have hz1 := HO1.out.2.1.size
  simp only [World.size_alloc] at hz1
  have hg1 := HO1.out.2.2
  simp only [World.size_alloc] at hg1
  have hB1 : Below W0.heap.size W0 w1 := below_only ((Below.refl _ _).alloc (Nat.le_refl _) _) (by simp) HO1.out.2.1 (by intro x hx e; omega)
  have hB2 : Below W0.heap.size W0 w2 := app_below hB1 (by omega) hB1.size hO2
  have HOB := Lib.hid (And.intro ho2 hB2)
  have hg2w : W0.heap.size ≤ g2 := by omega
  clear hB1 hB2 ho2 hO2 hg1 hg2
  go_cut [3] (fun v3 wx => PadE W0 b v3 wx)
  case first =>
    go_wp2_with fail
    go_loopw [3] (fun v3 wr => PadA W0 b v3 wr) (fun v3 _ => PadM b v3)
    case atStart => exact ⟨0, g2, _, c2, rfl, rfl, by omega, by simpa using HOB.out.1, hg2w, hl2, HOB.out.2⟩
    case round =>
      obtain ⟨k, g, m, c3, rfl, hmv, hk, hO, hg, hgl, hB⟩ := hrel
      have hz := padZ_lt b.length
      have HO := Lib.hid hO
      have HB := Lib.hid hB
      have HM := Lib.hid hmv
      have hm0 : 0 < m := by omega
      have hmb : m ≤ b.length + 64 := by omega
      have hsz := hB.size
      clear hO hB
      have hmi : (0 : Int) ≤ (m : Int) := by omega
      by_cases hkz : k < padZ b.length
      · have hne := padZ_not hkz
        have hne2 : ¬ ((m : Int) % 64 = 56) := by omega
        have hrep : b ++ [128] ++ List.replicate (k + 1) 0 = (b ++ [128] ++ List.replicate k 0) ++ [0] := by rw [List.replicate_succ', ← List.append_assoc]
        have HREP := Lib.hid hrep
        have hxl : (b ++ [128] ++ List.replicate k (0 : UInt8)).length = m := by simp; omega
        have HXL := Lib.hid hxl
        clear hmv hrep hxl
        go_wp2_with (at_builtin; refine wpList_append_byte rfl _ _ 23 rfl Try.underlying23 Try.info5 g _ (b ++ [128] ++ List.replicate k 0) rfl HO.out 0 0 rfl rfl (by rw [HXL.out]; omega) ?_; rw [HXL.out]; intro g4 c4 w4 ho4 hg4 hl4 hc4 hm4 hO4)
        refine ⟨⟨k + 1, g4, _, c4, rfl, by have := HM.out; omega, by omega, by rw [HREP.out]; exact ho4, by omega, hl4, app_below HB.out hg hsz hO4⟩, ?_⟩
        show b.length + 100 - (m + 1) < b.length + 100 - m
        omega
      · obtain rfl : k = padZ b.length := by omega
        have hend := padZ_end b.length
        have he2 : (m : Int) % 64 = 56 := by omega
        clear hmv hend
        go_wp2
        go_meet
        exact ⟨g, m, c3, rfl, HM.out, HO.out, hg, hgl, HB.out⟩
  case rest =>
    obtain ⟨g, m, c3, rfl, hmv, hO, hg, hgl, hB⟩ := hcut
    have HCC := Lib.hid (And.intro hmv (And.intro hO hB))
    clear hmv hO hB HOB
    have hlb : (b.length : Int) ≤ 140737488355328 := by omega
    go_upto_block 2 with (fail)
    obtain ⟨X, hX⟩ : ∃ X, X = UInt64.ofNat (8 * b.length) := ⟨_, rfl⟩
    have hXn : X.toNat = 8 * b.length := by rw [hX, UInt64.toNat_ofNat', Nat.mod_eq_of_lt (by omega)]
    have hXD : Value.int .u64 ((b.length : Int) * 8) = D X := by unfold D; rw [hXn]; congr 1; omega
    rw [hXD]
    have HX := Lib.hid hXn
    have cv := cvD8
    clear hX hXn hXD
    go_cut [3] (fun v3 wx => PadF W0 b v3 wx)
    case first =>
      go_wp2_with fail
      go_loopw [3, 5] (fun v3 v5 wr => PadB W0 b v3 v5 wr) (fun _ v5 _ => (intOf v5 + 1).toNat)
      case atStart => exact ⟨8, 7, g, m, c3, [], rfl, rfl, by omega, by omega, by have := HCC.out.1; have := padZ_lt b.length; simp; omega, by simpa using HCC.out.2.1, rfl, hg, hgl, HCC.out.2.2⟩
      case round =>
        clear hgl hg
        obtain ⟨i, z, g, m, c, dn, rfl, rfl, hi, hz, hml, hO, hdn, hg, hgl, hB⟩ := hrel
        have hXL : (b ++ [128] ++ List.replicate (padZ b.length) (0 : UInt8)).length ≤ b.length + 65 := by have := padZ_lt b.length; simp; omega
        have hdl : dn.length + i = 8 := by
          have := congrArg List.length hdn
          rw [List.length_append, be_length, be_length] at this
          exact this
        have HO2 := Lib.hid (And.intro hO (And.intro hdn (And.intro hB hml)))
        have hm1 : m ≤ b.length + 100 := by rw [← hml, List.length_append]; omega
        have hszr := hB.size
        have HDL := Lib.hid hdl
        clear hO hdn hB hml hdl hXL
        by_cases h0 : i = 0
        · subst h0
          obtain rfl : z = -1 := by omega
          clear hz hi
          obtain ⟨p5, c5, hv5, y1, y2, y3, y4, y5⟩ := HO2.out.1.form
          have e5 : c5 = c := by simp at hv5; exact hv5.2.2.symm
          subst e5
          have HV := Lib.hid (And.intro y1 (And.intro y2 hv5))
          clear hv5 y3 y4 y5 y1 y2
          go_wp2
          go_meet
          have hd : dn = be (8 * b.length) 8 := by have := HO2.out.2.1; simpa [be] using this
          subst hd
          exact ⟨g, m, c5, rfl, HO2.out.2.2.2, HO2.out.1, hg, hgl, by rw [← HO2.out.2.2.2]; exact HV.out.1, HV.out.2.1, HO2.out.2.2.1⟩
        · obtain ⟨j, rfl⟩ : ∃ j, i = j + 1 := ⟨i - 1, by omega⟩
          obtain rfl : z = (j : Int) := by omega
          have hj0 : (0 : Int) ≤ (j : Int) := by omega
          have hj7 : (j : Int) ≤ 7 := by omega
          have hsh := fun w => D_shr (P := Try.prog) (w := w) (t := 49) X .i64 (8 * (j : Int)) (by omega)
          have ht8 : (8 * (j : Int)).toNat = 8 * j := by omega
          rw [ht8] at hsh
          clear hz
          go_wp2_with (at_builtin; refine wpList_append_byte rfl _ _ 23 rfl Try.underlying23 Try.info5 g _ (b ++ [128] ++ List.replicate (padZ b.length) 0 ++ dn) rfl HO2.out.1 _ (cut8 (shr64 X (8 * j))) rfl rfl (by rw [HO2.out.2.2.2]; omega) ?_; rw [HO2.out.2.2.2]; intro g4 c4 w4 ho4 hg4 hl4 hc4 hm4 hO4)
          have hbyte : cut8 (shr64 X (8 * j)) = UInt8.ofNat (8 * b.length / 256 ^ j) := by
            unfold cut8 shr64
            rw [HX.out, UInt64.toNat_ofNat', Nat.mod_eq_of_lt (Nat.lt_of_le_of_lt (Nat.div_le_self _ _) (by omega)), Nat.pow_mul]
          have hdn2 : (dn ++ [cut8 (shr64 X (8 * j))]) ++ be (8 * b.length) j = be (8 * b.length) 8 := by
            rw [hbyte, ← HO2.out.2.1, List.append_assoc]
            rfl
          refine ⟨⟨j, (j : Int) - 1, g4, m + 1, c4, dn ++ [cut8 (shr64 X (8 * j))], rfl, rfl, by omega, rfl, by rw [← List.append_assoc, List.length_append, HO2.out.2.2.2]; rfl, by rw [← List.append_assoc]; exact ho4, hdn2, by omega, hl4, app_below HO2.out.2.2.1 hg hszr hO4⟩, by simp [intOf]⟩
    case rest =>
      clear HCC hg hgl cv
      obtain ⟨g, N, C, rfl, hN, hO, hg, hgl, hNC, hCm, hB⟩ := hcut
      have HM := Lib.hid (And.intro hN (And.intro hO hB))
      have hsz1 := hB.size
      clear hN hO hB
      obtain ⟨wm, rfl⟩ : ∃ wm : World, wm = wc := ⟨_, rfl⟩
      obtain ⟨W1, hW1⟩ : ∃ W1, W1 = wm.alloc (.cells #[.int .u32 1779033703, .int .u32 3144134277, .int .u32 1013904242, .int .u32 2773480762, .int .u32 1359893119, .int .u32 2600822924, .int .u32 528734635, .int .u32 1541459225] 143) := ⟨_, rfl⟩
      have hH1 : ArrU W1 wm.heap.size 143 refH ∧ Below wm.heap.size wm W1 := by
        rw [hW1]
        exact ⟨(ArrU.new wm 143 refH : ArrU _ _ _ _), (Below.refl _ _).alloc (Nat.le_refl _) _⟩
      have H1 := Lib.hid hH1
      have HE1 := Lib.hid hW1.symm
      have hs1 : wm.heap.size < W1.heap.size := hH1.1.lt
      clear hW1 hH1
      go_upto_region 10 with (fail)
      rw [HE1.out]
      have hZ : ∀ (u : World), ArrU (u.alloc (.cells #[.int .u32 0, .int .u32 0, .int .u32 0, .int .u32 0, .int .u32 0, .int .u32 0, .int .u32 0, .int .u32 0, .int .u32 0, .int .u32 0, .int .u32 0, .int .u32 0, .int .u32 0, .int .u32 0, .int .u32 0, .int .u32 0, .int .u32 0, .int .u32 0, .int .u32 0, .int .u32 0, .int .u32 0, .int .u32 0, .int .u32 0, .int .u32 0, .int .u32 0, .int .u32 0, .int .u32 0, .int .u32 0, .int .u32 0, .int .u32 0, .int .u32 0, .int .u32 0, .int .u32 0, .int .u32 0, .int .u32 0, .int .u32 0, .int .u32 0, .int .u32 0, .int .u32 0, .int .u32 0, .int .u32 0, .int .u32 0, .int .u32 0, .int .u32 0, .int .u32 0, .int .u32 0, .int .u32 0, .int .u32 0, .int .u32 0, .int .u32 0, .int .u32 0, .int .u32 0, .int .u32 0, .int .u32 0, .int .u32 0, .int .u32 0, .int .u32 0, .int .u32 0, .int .u32 0, .int .u32 0, .int .u32 0, .int .u32 0, .int .u32 0, .int .u32 0] 147)) u.heap.size 147 (List.replicate 64 0) := fun u => (ArrU.new u 147 (List.replicate 64 0) : ArrU _ _ _ _)
      have HZ := Lib.hid hZ
      clear hZ
      go_upto_block 4 with (first
        | (go_at_call 109; refine (consts_c W1).mono ?_; rintro e w2 ⟨rfl, hB2⟩; have HB2 := Lib.hid hB2; clear hB2)
        | (refine st_arrU rfl 147 (.tmp 7) (.tmp 50) rfl w2.heap.size refK rfl rfl _ _ (HZ.out w2) Try.infoA64 rfl ?_; intro w3 hA3 hO3))
      have hs2 := HB2.out.size
      have hs3 := hO3.size
      simp only [World.size_alloc] at hs3
      obtain ⟨M, hM⟩ : ∃ x, x = padL b := ⟨_, rfl⟩
      have hN64 : N % 64 = 0 := by rw [← HM.out.1]; exact (padL_len b).1
      have hNb : N ≤ b.length + 73 := by rw [← HM.out.1]; exact (padL_len b).2
      have hB3 : Below wm.heap.size wm w3 := below_only ((H1.out.2.trans (HB2.out.mono (by omega))).alloc (by omega) _) (by simp; omega) hO3 (by intro x hx e; omega)
      have hBw : Below w.heap.size w w3 := (H0.out.2.trans (HM.out.2.2.mono (by omega))).trans (hB3.mono (by omega))
      have hR3 : ArrB w3 w.heap.size 22 (List.replicate 32 0) := (H0.out.1.below HM.out.2.2).below hB3
      have hA1 : ArrU w3 wm.heap.size 143 (hashS M 0) := by
        rw [show hashS M 0 = refH by rw [refH_eq]; rfl]
        exact ((H1.out.1.below HB2.out).below ((Below.refl _ _).alloc (Nat.le_refl _) _)).only hO3 (by omega)
      have hM3 : Rd w3 (fun k => k = g) (some ⟨g, 0, none⟩) M ∧ M.length = N := by
        rw [hM]
        exact ⟨HM.out.2.1.rd.below hB3, HM.out.1⟩
      have H3 := Lib.hid (And.intro hA1 (And.intro hA3 (And.intro hM3 (And.intro hR3 hBw))))
      have HMM := Lib.hid hM
      clear hA1 hA3 hM3 hR3 hBw hM hB3 hO3
      go_cut [8] (fun v8 wx => ArrU wx wm.heap.size 143 (hashS M (N / 64)) ∧ Only (fun k => k = wm.heap.size) w3 wx)
      case first =>
        go_wp2_with fail
        go_loopw [8] (fun v8 wr => RsRel w3 M N wm.heap.size v8 wr) (fun v8 _ => (N - intOf v8).toNat)
        case atStart => exact ⟨0, rfl, by omega, H3.out.1, Only.refl _ _⟩
        case round =>
          obtain ⟨j, rfl, hj, hA, hO⟩ := hrel
          have HO := Lib.hid (And.intro hA hO)
          have hszr := hO.size
          clear hA hO
          by_cases hlt : 64 * j < N
          · have hlI : ((64 * j : Nat) : Int) < (N : Int) := by omega
            have hat : ((64 * j : Nat) : Int) ≤ 140737488355328 := by omega
            obtain ⟨at', hat'⟩ : ∃ x, x = 64 * j := ⟨_, rfl⟩
            rw [← hat'] at hlI hat ⊢
            obtain ⟨Bk, hBk⟩ : ∃ x, x = M.drop (64 * j) := ⟨_, rfl⟩
            have hBl : Bk.length = N - at' := by rw [hBk, List.length_drop, H3.out.2.2.1.2, hat']
            have hB64 : 64 ≤ Bk.length := by omega
            have HJ := Lib.hid (And.intro hat' (And.intro hBk hBl))
            have hat64 : at' + 64 ≤ N := by omega
            clear hBk hBl hat'
            go_upto_block 6 with (fail)
            have hw0 : ∀ W, W = wr.alloc (.cells #[.int .u32 0, .int .u32 0, .int .u32 0, .int .u32 0, .int .u32 0, .int .u32 0, .int .u32 0, .int .u32 0, .int .u32 0, .int .u32 0, .int .u32 0, .int .u32 0, .int .u32 0, .int .u32 0, .int .u32 0, .int .u32 0, .int .u32 0, .int .u32 0, .int .u32 0, .int .u32 0, .int .u32 0, .int .u32 0, .int .u32 0, .int .u32 0, .int .u32 0, .int .u32 0, .int .u32 0, .int .u32 0, .int .u32 0, .int .u32 0, .int .u32 0, .int .u32 0, .int .u32 0, .int .u32 0, .int .u32 0, .int .u32 0, .int .u32 0, .int .u32 0, .int .u32 0, .int .u32 0, .int .u32 0, .int .u32 0, .int .u32 0, .int .u32 0, .int .u32 0, .int .u32 0, .int .u32 0, .int .u32 0, .int .u32 0, .int .u32 0, .int .u32 0, .int .u32 0, .int .u32 0, .int .u32 0, .int .u32 0, .int .u32 0, .int .u32 0, .int .u32 0, .int .u32 0, .int .u32 0, .int .u32 0, .int .u32 0, .int .u32 0, .int .u32 0] 147) → ArrU W wr.heap.size 147 (refW Bk 0) ∧ Below wr.heap.size wr W := by
              rintro W rfl
              exact ⟨HZ.out wr, (Below.refl _ _).alloc (Nat.le_refl _) _⟩
            obtain ⟨wo, rfl⟩ : ∃ wo : World, wo = wr := ⟨_, rfl⟩
            have HW0 := Lib.hid hw0
            clear hw0
            go_cut [10, 11, 12, 13] (fun v10 v11 v12 v13 wx => ArrU wx wo.heap.size 147 (sched Bk) ∧ Below wo.heap.size wo wx)
            case first =>
              go_wp2_with fail
              go_loopw [10, 11, 12, 13] (fun v10 v11 v12 v13 wr => RwRel wo Bk v10 wr) (fun v10 _ _ _ _ => (64 - intOf v10).toNat)
              case atStart => exact ⟨0, rfl, by omega, HW0.out _ rfl⟩
              case round =>
                obtain ⟨i, rfl, hi, hA, hB⟩ := hrel
                have HW := Lib.hid (And.intro hA hB)
                clear hA hB HW0
                have hi0 : (0 : Int) ≤ (i : Int) := by omega
                have hl := refW_len Bk i
                by_cases h16 : i < 16
                · have h16I : (i : Int) < 16 := by omega
                  have h64I : (i : Int) < 64 := by omega
                  obtain ⟨wp, rfl⟩ : ∃ wp : World, wp = wr := ⟨_, rfl⟩
                  go_upto_block 8 with (fail)
                  go_wp2_with fail
                  go_loopw [11] (fun v11 wr => RwRel2 wo Bk i v11 wr) (fun v11 _ => (4 - intOf v11).toNat)
                  case atStart => exact ⟨0, rfl, by omega, by have h := HW.out.1; unfold refW at h; rw [if_pos (by omega)] at h; exact h, HW.out.2⟩
                  case round =>
                    obtain ⟨k, rfl, hk, hA, hB⟩ := hrel
                    have HK := Lib.hid (And.intro hA hB)
                    by_cases hlt : k < 4
                    · have hwl := words_len Bk (4 * i + k)
                      have c1 := hA.c i (by rw [hwl]; omega)
                      have f1 := hA.fr i
                      have hib : 4 * i + k < Bk.length := by omega
                      have hiM : at' + (4 * i + k) < M.length := by rw [H3.out.2.2.1.2]; omega
                      have hcb : wr.cell? ⟨g, at' + 4 * i + k, none⟩ = some (.int .u8 ((Bk[4 * i + k]'hib).toNat : Int)) := by
                        have hr := ((H3.out.2.2.1.1.only HO.out.2 (fun x hx e => by omega)).below hB)
                        obtain ⟨ad, hae, _, hc⟩ := hr (at' + (4 * i + k)) hiM
                        cases hae
                        have e : (⟨g, 0, none⟩ : Addr).add (at' + (4 * i + k)) = ⟨g, at' + 4 * i + k, none⟩ := by unfold Addr.add; split <;> simp <;> omega
                        rw [e] at hc
                        rw [hc]
                        have e2 : M[at' + (4 * i + k)] = Bk[4 * i + k]'hib := by
                          have h : ∀ (L : List UInt8) (h : 4 * i + k < L.length), L = M.drop at' → M[at' + (4 * i + k)] = L[4 * i + k]'h := by
                            rintro L h rfl
                            simp
                          exact h Bk hib (by rw [HJ.out.2.1, HJ.out.1])
                        rw [e2]
                      obtain ⟨B, hBd⟩ : ∃ B : UInt8, B = Bk[4 * i + k]'hib := ⟨_, rfl⟩
                      rw [← hBd] at hcb
                      obtain ⟨X, hX⟩ : ∃ X, X = (words Bk (4 * i + k))[i]'(by rw [hwl]; omega) := ⟨_, rfl⟩
                      rw [← hX] at c1
                      have hst : words Bk (4 * i + (k + 1)) = (words Bk (4 * i + k)).set i (X * 256 + B.toUInt32) := by
                        rw [put_mul]
                        show put8 Bk (words Bk (4 * i + k)) (4 * i + k) = _
                        unfold put8
                        rw [hX, hBd, show (4 * i + k) / 4 = i by omega]
                        simp only [List.getD_eq_getElem?_getD, List.getElem?_eq_getElem (by rw [hwl]; omega : i < (words Bk (4 * i + k)).length), List.getElem?_eq_getElem hib, Option.getD_some]
                      have HST := Lib.hid hst
                      have s1 : IntKind.i64.wrap (4 * (i : Int)) = 4 * (i : Int) := IntWalk.i64_in _ ⟨by omega, by omega⟩
                      have s2 : IntKind.i64.wrap ((at' : Int) + 4 * (i : Int)) = (at' : Int) + 4 * (i : Int) := IntWalk.i64_in _ ⟨by omega, by omega⟩
                      have s3 : IntKind.i64.wrap ((at' : Int) + 4 * (i : Int) + (k : Int)) = (at' : Int) + 4 * (i : Int) + (k : Int) := IntWalk.i64_in _ ⟨by omega, by omega⟩
                      have b1 : (0 : Int) ≤ (at' : Int) + 4 * (i : Int) + (k : Int) := by omega
                      have b2 : (at' : Int) + 4 * (i : Int) + (k : Int) < (N : Int) := by omega
                      have b3 : ((at' : Int) + 4 * (i : Int) + (k : Int)).toNat = at' + 4 * i + k := by omega
                      have k256 : Value.int .u32 256 = U 256 := rfl
                      have cv := cvB32
                      have hkI : (k : Int) < 4 := by omega
                      clear hst hBd hX hwl hA hB hib hiM
                      go_upto_region 22 with (fail)
                      go_region
                      clear s1 s2 s3 k256
                      go_wp2
                      refine ⟨⟨k + 1, by simp, by omega, ?_, ?_⟩, by simp [intOf]; omega⟩
                      · rw [HST.out]
                        exact (HK.out.1.only (Only.drewN 1 (Only.refl (fun _ => False) _)) (fun h => h)).set i _
                      · exact (below_drewN' HK.out.2 1).setCell (by simp) _
                    · obtain rfl : k = 4 := by omega
                      have hkI : ¬ (4 : Int) < 4 := by omega
                      go_wp2
                      refine ⟨⟨i + 1, by simp, by omega, ?_, hB⟩, by simp [intOf]; omega⟩
                      unfold refW
                      rw [if_pos (by omega), show 4 * (i + 1) = 4 * i + 4 by omega]
                      exact hA
                · by_cases hi64 : i < 64
                  · have h16I : ¬ (i : Int) < 16 := by omega
                    have h64I : (i : Int) < 64 := by omega
                    obtain ⟨r, rfl⟩ : ∃ r, i = 16 + r := ⟨i - 16, by omega⟩
                    have hsl := schedK_len Bk r
                    have hAr : ArrU wr wo.heap.size 147 (schedK Bk r) := by
                      have h := HW.out.1
                      by_cases hr : r = 0
                      · subst hr; rw [← refW_16]; exact h
                      · unfold refW at h; rw [if_neg (by omega), show 16 + r - 16 = r by omega] at h; exact h
                    have c1 := hAr.c r (by omega)
                    have c2 := hAr.c (r + 9) (by omega)
                    have c3 := hAr.c (r + 1) (by omega)
                    have c4 := hAr.c (r + 14) (by omega)
                    have f1 := hAr.fr (16 + r)
                    have c5 := hAr.c (16 + r) (by omega)
                    obtain ⟨x1, h1⟩ : ∃ x, x = (schedK Bk r)[r]'(by omega) := ⟨_, rfl⟩
                    obtain ⟨x2, h2⟩ : ∃ x, x = (schedK Bk r)[r + 9]'(by omega) := ⟨_, rfl⟩
                    obtain ⟨x3, h3⟩ : ∃ x, x = (schedK Bk r)[r + 1]'(by omega) := ⟨_, rfl⟩
                    obtain ⟨x4, h4⟩ : ∃ x, x = (schedK Bk r)[r + 14]'(by omega) := ⟨_, rfl⟩
                    obtain ⟨x5, h5⟩ : ∃ x, x = (schedK Bk r)[16 + r]'(by omega) := ⟨_, rfl⟩
                    rw [← h1] at c1
                    rw [← h2] at c2
                    rw [← h3] at c3
                    rw [← h4] at c4
                    rw [← h5] at c5
                    have hst : refW Bk (16 + r + 1) = (schedK Bk r).set (16 + r) (nextW x1 x2 x3 x4) := by
                      unfold refW
                      rw [if_neg (by omega), show 16 + r + 1 - 16 = r + 1 by omega]
                      show sch (schedK Bk r) (16 + r) = _
                      unfold sch
                      rw [show 16 + r - 16 = r by omega, show 16 + r - 7 = r + 9 by omega, show 16 + r - 15 = r + 1 by omega, show 16 + r - 2 = r + 14 by omega, h1, h2, h3, h4]
                      simp only [List.getD_eq_getElem?_getD, List.getElem?_eq_getElem (by omega : r < (schedK Bk r).length), List.getElem?_eq_getElem (by omega : r + 9 < (schedK Bk r).length), List.getElem?_eq_getElem (by omega : r + 1 < (schedK Bk r).length), List.getElem?_eq_getElem (by omega : r + 14 < (schedK Bk r).length), Option.getD_some]
                    have HST := Lib.hid hst
                    have HAR := Lib.hid hAr
                    have r0 : (0 : Int) ≤ (r : Int) := by omega
                    have r64 : (r : Int) < 64 := by omega
                    have sh10 := fun (x : UInt32) (w : World) => U_shr (P := Try.prog) (w := w) (t := 142) x .u64 10 (by omega)
                    have sh3 := fun (x : UInt32) (w : World) => U_shr (P := Try.prog) (w := w) (t := 142) x .u64 3 (by omega)
                    have e10 : (10 : Int).toNat = 10 := rfl
                    have e3 : (3 : Int).toNat = 3 := rfl
                    rw [e10] at sh10
                    rw [e3] at sh3
                    clear e10 e3
                    have ec : ((16 + r : Nat) : Int) = 16 + (r : Int) := by omega
                    rw [ec] at hi0 h16I h64I ⊢
                    have s1 : IntKind.i64.wrap (16 + (r : Int) - 16) = (r : Int) := by rw [IntWalk.i64_in _ ⟨by omega, by omega⟩]; omega
                    have s2 : IntKind.i64.wrap (16 + (r : Int) - 7) = (r : Int) + 9 := by rw [IntWalk.i64_in _ ⟨by omega, by omega⟩]; omega
                    have s3 : IntKind.i64.wrap (16 + (r : Int) - 15) = (r : Int) + 1 := by rw [IntWalk.i64_in _ ⟨by omega, by omega⟩]; omega
                    have s4 : IntKind.i64.wrap (16 + (r : Int) - 2) = (r : Int) + 14 := by rw [IntWalk.i64_in _ ⟨by omega, by omega⟩]; omega
                    have b2 : (0 : Int) ≤ (r : Int) + 9 := by omega
                    have b3 : (0 : Int) ≤ (r : Int) + 1 := by omega
                    have b4 : (0 : Int) ≤ (r : Int) + 14 := by omega
                    have b5 : (r : Int) + 9 < 64 := by omega
                    have b6 : (r : Int) + 1 < 64 := by omega
                    have b7 : (r : Int) + 14 < 64 := by omega
                    have t2 : ((r : Int) + 9).toNat = r + 9 := by omega
                    have t3 : ((r : Int) + 1).toNat = r + 1 := by omega
                    have t4 : ((r : Int) + 14).toNat = r + 14 := by omega
                    have t5 : (16 + (r : Int)).toNat = 16 + r := by omega
                    have n1 : (⟨wo.heap.size, 16 + r, none⟩ : Addr) ≠ ⟨wo.heap.size, r, none⟩ := by intro h; injection h with _ h _; omega
                    have n2 : (⟨wo.heap.size, 16 + r, none⟩ : Addr) ≠ ⟨wo.heap.size, r + 9, none⟩ := by intro h; injection h with _ h _; omega
                    clear hst h1 h2 h3 h4 h5 hsl hAr ec
                    go_upto_region 23 with (fail)
                    go_quiet (fail)
                    go_upto_region 24 with (fail)
                    go_region_held3 (fun w' => w'.cell? ⟨wo.heap.size, r, none⟩ = some (U x1) ∧ w'.cell? ⟨wo.heap.size, r + 9, none⟩ = some (U x2)) (first | exact ⟨c1, c2⟩ | exact ⟨(World.cell?_setCell_other _ _ _ _ n1).trans c1, (World.cell?_setCell_other _ _ _ _ n2).trans c2⟩) ((go_at_call 110; refine (turn_c _ _ _ (by omega)).mono ?_; rintro e w' ⟨rfl, mm, rfl⟩))
                    all_goals go_wp2
                    refine ⟨⟨16 + r + 1, by congr 1, by omega, ?_, ?_⟩, by simp [intOf]; omega⟩
                    · rw [HST.out, ← refNext]
                      exact (HAR.out.only (Only.drewN _ (Only.refl (fun _ => False) _)) (fun h => h)).set _ _
                    · exact (below_drewN' HW.out.2 _).setCell (by simp) _
                  · obtain rfl : i = 64 := by omega
                    have hnI : ¬ (64 : Int) < 64 := by omega
                    go_wp2
                    go_meet
                    exact ⟨by rw [← refW_64]; exact HW.out.1, HW.out.2⟩
            case rest =>
              obtain ⟨wa, rfl⟩ : ∃ wa : World, wa = wc := ⟨_, rfl⟩
              obtain ⟨hAw, hBa⟩ := hcut
              obtain ⟨SB, hSB⟩ : ∃ x, x = sched Bk := ⟨_, rfl⟩
              have hSBl : SB.length = 64 := by rw [hSB]; exact sched_len Bk
              rw [← hSB] at hAw
              obtain ⟨s, hs⟩ : ∃ x, x = hashS M j := ⟨_, rfl⟩
              have hsl : s.length = 8 := by rw [hs]; exact hashS_len M j
              have hHa : ArrU wa wm.heap.size 143 s := by rw [hs]; exact HO.out.1.below hBa
              have hKa : ArrU wa w2.heap.size 147 refK := (H3.out.2.1.only HO.out.2 (by omega)).below hBa
              have hOa : Only (fun k => k = wm.heap.size) w3 wa := HO.out.2.then (Only.of_below hBa)
              have HA := Lib.hid (And.intro hAw (And.intro hHa (And.intro hKa hOa)))
              have HSB := Lib.hid (And.intro hSB (And.intro hSBl (And.intro hs hsl)))
              have hsa := hBa.size
              have hwol : wo.heap.size < wa.heap.size := hAw.lt
              clear hAw hBa hSB hSBl hs hsl hHa hKa hOa HW0
              have hZ8 : ∀ (u : World), ArrU (u.alloc (.cells #[.int .u32 0, .int .u32 0, .int .u32 0, .int .u32 0, .int .u32 0, .int .u32 0, .int .u32 0, .int .u32 0] 143)) u.heap.size 143 (List.replicate 8 0) := fun u => (ArrU.new u 143 (List.replicate 8 0) : ArrU _ _ _ _)
              have HZ8 := Lib.hid hZ8
              clear hZ8
              go_upto_block 10 with (first
                | (refine ld_arrU rfl 143 (.tmp 6) rfl wm.heap.size rfl _ s HA.out.2.1 _ _ Try.underlying143 (by rw [HSB.out.2.2.2]; exact Try.infoA8) ?_)
                | (refine st_arrU rfl 143 (.tmp 14) (.tmp 121) rfl wa.heap.size s rfl rfl _ _ (HZ8.out wa) (by rw [HSB.out.2.2.2]; exact Try.infoA8) (by rw [HSB.out.2.2.2]; rfl) ?_; intro w5 hA5 hO5))
              have hs5 := hO5.size
              simp only [World.size_alloc] at hs5
              have hB5 : Below wa.heap.size wa w5 := below_only ((Below.refl _ _).alloc (Nat.le_refl _) _) (by simp) hO5 (by intro x hx e; omega)
              have H5 := Lib.hid (And.intro hA5 hB5)
              clear hA5 hO5 hB5
              go_cut [15, 16, 17] (fun v15 v16 v17 wx => ArrU wx wa.heap.size 143 (rnds SB refK s 64) ∧ Only (fun k => k = wa.heap.size) w5 wx)
              case first =>
                go_wp2_with fail
                go_loopw [15, 16, 17] (fun v15 v16 v17 wr => RcRel w5 wa.heap.size SB s v15 wr) (fun v15 _ _ _ => (64 - intOf v15).toNat)
                case atStart => exact ⟨0, rfl, by omega, H5.out.1, Only.refl _ _⟩
                case round =>
                  obtain ⟨i, rfl, hi, hA7, hO7⟩ := hrel
                  by_cases hlt : i < 64
                  · obtain ⟨a0, a1, a2, a3, a4, a5, a6, a7, hv⟩ := list8 _ (rnds_len SB refK s HSB.out.2.2.2 i)
                    rw [hv] at hA7
                    have c0 := hA7.c 0 (by simp)
                    have c1 := hA7.c 1 (by simp)
                    have c2 := hA7.c 2 (by simp)
                    have c3 := hA7.c 3 (by simp)
                    have c4 := hA7.c 4 (by simp)
                    have c5 := hA7.c 5 (by simp)
                    have c6 := hA7.c 6 (by simp)
                    have c7 := hA7.c 7 (by simp)
                    simp only [List.getElem_cons_zero, List.getElem_cons_succ] at c0 c1 c2 c3 c4 c5 c6 c7
                    have hKr : ArrU wr w2.heap.size 147 refK := (HA.out.2.2.1.below H5.out.2).only hO7 (by omega)
                    have hWr : ArrU wr wo.heap.size 147 SB := (HA.out.1.below H5.out.2).only hO7 (by omega)
                    have hKl : refK.length = 64 := rfl
                    have ck := hKr.c i (by rw [hKl]; exact hlt)
                    have cw := hWr.c i (by rw [HSB.out.2.1]; exact hlt)
                    obtain ⟨kk, hkk⟩ : ∃ x, x = refK[i]'(by rw [hKl]; exact hlt) := ⟨_, rfl⟩
                    obtain ⟨ww, hww⟩ : ∃ x, x = SB[i]'(by rw [HSB.out.2.1]; exact hlt) := ⟨_, rfl⟩
                    rw [← hkk] at ck
                    rw [← hww] at cw
                    have hst : rnds SB refK s (i + 1) = rnd [a0, a1, a2, a3, a4, a5, a6, a7] kk ww := by
                      show rnd (rnds SB refK _ i) _ _ = _
                      rw [hv, hkk, hww]
                      simp only [List.getD_eq_getElem?_getD, List.getElem?_eq_getElem (by rw [hKl]; exact hlt : i < refK.length), List.getElem?_eq_getElem (by rw [HSB.out.2.1]; exact hlt : i < SB.length), Option.getD_some]
                    have HST := Lib.hid hst
                    have HB7 := Lib.hid (And.intro hA7 hO7)
                    have hlI : (i : Int) < 64 := by omega
                    have hi0 : (0 : Int) ≤ (i : Int) := by omega
                    clear hst hv hkk hww hA7 hO7 hKr hWr hKl
                    go_upto_region 29 with (fail)
                    go_quiet ((first | (go_at_call 110; exact Calls.quiet_of (turn_c _ _ _ (by omega))) | (go_at_call 111; exact Calls.quiet_of (bits_c _ _ _ _ _))))
                    go_upto_region 30 with (fail)
                    go_quiet ((first | (go_at_call 110; exact quiet_onD (turn_c _ _ _ (by omega))) | (go_at_call 111; exact quiet_onD (bits_c _ _ _ _ _))))
                    obtain ⟨T, hT⟩ : ∃ T, T = a7 + (rotr a4 6 ^^^ rotr a4 11 ^^^ rotr a4 25) + bitsK a4 a5 a6 false 32 + kk + ww := ⟨_, rfl⟩
                    obtain ⟨V, hV⟩ : ∃ V, V = (rotr a0 2 ^^^ rotr a0 13 ^^^ rotr a0 22) + bitsK a0 a1 a2 true 32 := ⟨_, rfl⟩
                    rw [← hT, ← hV]
                    have HTV := Lib.hid (And.intro hT hV)
                    clear hT hV
                    go_upto_region 31 with (fail)
                    go_wp2_with (first
                      | (refine wpList_build_eq rfl 143 _ rfl (C := ([T + V, a0, a1, a2, a3 + T, a4, a5, a6].map U).toArray) rfl (by kernel_rfl) ?_)
                      | (refine st_arrU rfl 143 (.tmp 14) (.tmp 194) rfl wa.heap.size [T + V, a0, a1, a2, a3 + T, a4, a5, a6] rfl rfl _ _ HB7.out.1 Try.infoA8 rfl ?_; intro w6 hA6 hO6))
                    refine ⟨⟨i + 1, by simp, by omega, ?_, (Only.drewN _ HB7.out.2).then hO6⟩, by simp [intOf]; omega⟩
                    have e8 : rnd [a0, a1, a2, a3, a4, a5, a6, a7] kk ww = [T + V, a0, a1, a2, a3 + T, a4, a5, a6] := by
                      rw [HTV.out.1, HTV.out.2, bits_ch, bits_maj]
                      rfl
                    rw [HST.out, e8]
                    exact hA6
                  · obtain rfl : i = 64 := by omega
                    have hnI : ¬ (64 : Int) < 64 := by omega
                    go_wp2
                    go_meet
                    exact ⟨hA7, hO7⟩
              case rest =>
                obtain ⟨wb, rfl⟩ : ∃ wb : World, wb = wc := ⟨_, rfl⟩
                obtain ⟨hAv, hOv⟩ := hcut
                obtain ⟨V, hV⟩ : ∃ x, x = rnds SB refK s 64 := ⟨_, rfl⟩
                have hVl : V.length = 8 := by rw [hV]; exact rnds_len _ _ _ HSB.out.2.2.2 64
                rw [← hV] at hAv
                have hOb : Only (fun k => k = wm.heap.size) w3 wb := (HA.out.2.2.2.then (Only.of_below H5.out.2)).trans (t := fun k => k = wm.heap.size) hOv (fun x h => h) (fun x hx e => by omega)
                have hHb : ArrU wb wm.heap.size 143 s := (HA.out.2.1.below H5.out.2).only hOv (by omega)
                have HBV := Lib.hid (And.intro hAv (And.intro hOb (And.intro hHb (And.intro hV hVl))))
                have hsb := hOv.size
                clear hAv hOv hOb hHb hV hVl
                go_upto_block 12 with (fail)
                go_wp2_with fail
                go_loopw [18] (fun v18 wr => RdRel wb wm.heap.size s V v18 wr) (fun v18 _ => (8 - intOf v18).toNat)
                case atStart => exact ⟨0, rfl, by omega, HBV.out.2.2.1, Only.refl _ _⟩
                case round =>
                  obtain ⟨i, rfl, hi, hA, hO8⟩ := hrel
                  have HD := Lib.hid (And.intro hA hO8)
                  by_cases hlt : i < 8
                  · have hsl : (addK s V i).length = 8 := by rw [addK_len]; exact HSB.out.2.2.2
                    have cc := hA.c i (by rw [hsl]; exact hlt)
                    have ff := hA.fr i
                    have cv := (HBV.out.1.only hO8 (by omega)).c i (by rw [HBV.out.2.2.2.2]; exact hlt)
                    obtain ⟨x1, h1⟩ : ∃ x, x = (addK s V i)[i]'(by rw [hsl]; exact hlt) := ⟨_, rfl⟩
                    obtain ⟨x2, h2⟩ : ∃ x, x = V[i]'(by rw [HBV.out.2.2.2.2]; exact hlt) := ⟨_, rfl⟩
                    rw [← h1] at cc
                    rw [← h2] at cv
                    have hst : addK s V (i + 1) = (addK s V i).set i (x1 + x2) := by
                      rw [h1, h2]
                      show ((addK _ V i).set i _) = _
                      simp only [List.getD_eq_getElem?_getD, List.getElem?_eq_getElem (by rw [HBV.out.2.2.2.2]; exact hlt : i < V.length), List.getElem?_eq_getElem (by rw [hsl]; exact hlt : i < (addK s V i).length), Option.getD_some]
                    have HST := Lib.hid hst
                    have hlI : (i : Int) < 8 := by omega
                    have hi0 : (0 : Int) ≤ (i : Int) := by omega
                    clear hst h1 h2 hsl hA hO8
                    go_upto_region 35 with (fail)
                    go_region
                    go_wp2
                    refine ⟨⟨i + 1, by simp, by omega, ?_, (Only.drewN 1 HD.out.2).setCell _ _ (.inl rfl)⟩, by simp [intOf]; omega⟩
                    rw [HST.out]
                    exact (HD.out.1.only (Only.drewN 1 (Only.refl (fun _ => False) _)) (fun h => h)).set i _
                  · obtain rfl : i = 8 := by omega
                    have hnI : ¬ (8 : Int) < 8 := by omega
                    have HX8 := Lib.hid (And.intro hA hO8)
                    clear hA hO8
                    have hatN : ((at' : Int) + 64) ≤ 9223372036854775807 := by omega
                    go_wp2
                    refine ⟨⟨j + 1, by congr 1; have := HJ.out.1; omega, by have := HJ.out.1; omega, ?_, HBV.out.2.1.then HX8.out.2⟩, by have := HJ.out.1; simp [intOf]; omega⟩
                    have e : hashS M (j + 1) = addK s V 8 := by
                      rw [HBV.out.2.2.2.1, HSB.out.1, HSB.out.2.2.1, HJ.out.2.1, refK_eq]
                      rfl
                    rw [e]
                    exact HX8.out.1
          · have hjn : j = N / 64 := by omega
            have hge : ¬ ((64 * j : Nat) : Int) < (N : Int) := by omega
            have hNj : 64 * j = N := by omega
            go_wp2
            go_meet
            rw [← hjn]
            exact HO.out
      case rest =>
        obtain ⟨wz, rfl⟩ : ∃ wz : World, wz = wc := ⟨_, rfl⟩
        obtain ⟨hAz, hOz⟩ := hcut
        obtain ⟨st, hst⟩ : ∃ x, x = hashS M (N / 64) := ⟨_, rfl⟩
        have hsl : st.length = 8 := by rw [hst]; exact hashS_len M _
        rw [← hst] at hAz
        have hs8 := hAz.lt
        have hO2 : ArrB wz w.heap.size 22 (List.replicate 32 0) := H3.out.2.2.2.1.only hOz (by omega)
        have HS := Lib.hid (And.intro hst (And.intro hsl (And.intro hAz (And.intro hO2 hOz))))
        have hsw : w.heap.size < wz.heap.size := hO2.lt
        clear hst hsl hAz hO2 hOz
        have h01 : SmRel2 w wz st (.int .i64 0) (wz.alloc (.cells #[.int .u8 0, .int .u8 0, .int .u8 0, .int .u8 0, .int .u8 0, .int .u8 0, .int .u8 0, .int .u8 0, .int .u8 0, .int .u8 0, .int .u8 0, .int .u8 0, .int .u8 0, .int .u8 0, .int .u8 0, .int .u8 0, .int .u8 0, .int .u8 0, .int .u8 0, .int .u8 0, .int .u8 0, .int .u8 0, .int .u8 0, .int .u8 0, .int .u8 0, .int .u8 0, .int .u8 0, .int .u8 0, .int .u8 0, .int .u8 0, .int .u8 0, .int .u8 0] 22)) := ⟨0, rfl, by omega, (ArrB.new wz 22 (List.replicate 32 0) : ArrB _ _ _ _), (Below.refl _ _).alloc (Nat.le_refl _) _⟩
        have H01 := Lib.hid h01
        clear h01
        have cv := cvU8
        go_wp2
        go_loopw [20] (fun v20 wx => SmRel2 w wz st v20 wx) (fun v20 _ => (32 - intOf v20).toNat)
        case atStart => exact H01.out
        case round =>
          obtain ⟨i, rfl, hi, hA, hB⟩ := hrel
          have HB := Lib.hid (And.intro hA hB)
          have hszx := hB.size
          by_cases hlt : i < 32
          · have hol := outK_len st i
            have c1 := (HS.out.2.2.1.below hB).c (i / 4) (by rw [HS.out.2.1]; omega)
            have c2 := hA.c i (by rw [hol]; exact hlt)
            have f2 := hA.fr i
            obtain ⟨X, hX⟩ : ∃ x, x = st[i / 4]'(by rw [HS.out.2.1]; omega) := ⟨_, rfl⟩
            rw [← hX] at c1
            obtain ⟨Y, hY⟩ : ∃ x, x = (outK st i)[i]'(by rw [hol]; exact hlt) := ⟨_, rfl⟩
            rw [← hY] at c2
            have hst : outK st (i + 1) = (outK st i).set i (low8 (shr32 X (24 - 8 * (i % 4)))) := by
              show ((outK st i).set i (outB st i)) = _
              unfold outB
              rw [hX]
              simp only [List.getD_eq_getElem?_getD, List.getElem?_eq_getElem (by rw [HS.out.2.1]; omega : i / 4 < st.length), Option.getD_some]
            have HST := Lib.hid hst
            have hsh := fun (w : World) => U_shr (P := Try.prog) (w := w) (t := 142) X .i64 (24 - 8 * ((i : Int) % 4)) (by omega)
            rw [show (24 - 8 * ((i : Int) % 4)).toNat = 24 - 8 * (i % 4) by omega] at hsh
            have hti : ((i : Int) / 4).toNat = i / 4 := by omega
            have hlI : (i : Int) < 32 := by omega
            have hi0 : (0 : Int) ≤ (i : Int) := by omega
            clear hst hX hY hol hA hB
            go_wp2
            refine ⟨⟨i + 1, by simp, by omega, by rw [HST.out]; exact HB.out.1.set i _, HB.out.2.setCell (by simp) _⟩, by simp [intOf]; omega⟩
          · obtain rfl : i = 32 := by omega
            have hol := outK_len st 32
            have HO2 := Lib.hid (And.intro (HS.out.2.2.2.1.below hB) hol)
            clear hA hB hol
            go_upto_region 41 with (fail)
            go_wp2_with (first
              | (refine ld_arrB rfl 22 (.tmp 19) rfl wz.heap.size rfl _ _ HB.out.1 _ _ Try.underlying22 (by rw [HO2.out.2]; exact Try.infoB32) ?_)
              | (refine st_arrB rfl 22 (.tmp 2) _ rfl w.heap.size _ rfl rfl _ _ HO2.out.1 (by rw [HO2.out.2]; exact Try.infoB32) (by rw [HO2.out.2]; simp) ?_; intro w7 hA7 hO7))
            refine bodyPost_ret (v := .agg ((outK st 32).map B8).toArray) (results_cell_row (P := Try.prog) Try.results75 _ _ w.heap.size _ _ _ _ rfl hA7 Try.underlying22 rfl (by rw [Try.infoB32]; simp [HO2.out.2])) rfl (And.intro ?_ ?_)
            · rw [HS.out.1, HMM.out]
              unfold sumL
              rw [HM.out.1]
            · have h1 : Below w.heap.size w wz := below_only H3.out.2.2.2.2 H3.out.2.2.2.2.size HS.out.2.2.2.2 (by intro k hk e; omega)
              have h2 := h1.trans (HB.out.2.mono h1.size)
              exact below_only h2 h2.size hO7 (by intro k hk e; omega)
end Go.Proofs.Ytegmimnhkohaoaa
