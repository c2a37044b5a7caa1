/-
  The contract of sha.mix. Condition: at least 64 bytes, 64 constants.
-/
import Derived.Test.YtolgaapiedbkfaaGreatZg3
import Derived.Laws.CopyOwn
import Derived.Deep.RegionLaw
import Derived.Laws.Externs
import Derived.Test.YtolgaapiedbkfaaGreatZg1
import Derived.StillTail
import Derived.BigQuiet
import Derived.OrdersHeld
namespace Go.Proofs.YtolgaapiedbkfaaGreat
open Go.RowKit Go.Kx
set_option linter.unusedVariables false
set_option linter.unusedSimpArgs false
attribute [local go_sem ↓] U_add U_mul U_xor U_or U_and U_not U_shl U_shr U_guard1 U_guard2 U_store exec_stU
attribute [local go_sem] st1_U st1_i

theorem sched_len (b : List UInt8) : (sched b).length = 64 := by unfold sched; rw [schedK_len]
/-- One round. -/
def rnd (v : List UInt32) (k w : UInt32) : List UInt32 :=
  match v with
  | [a, b, c, d, e, f, g, h] =>
    let t := h + (rotr e 6 ^^^ rotr e 11 ^^^ rotr e 25) + (e &&& f ||| ~~~e &&& g) + k + w
    let u := (rotr a 2 ^^^ rotr a 13 ^^^ rotr a 22) + (a &&& b ||| a &&& c ||| b &&& c)
    [t + u, a, b, c, d + t, e, f, g]
  | _ => List.replicate 8 0
theorem rnd_len (v : List UInt32) (k w : UInt32) : (rnd v k w).length = 8 := by
  unfold rnd
  split <;> simp
def rnds (W K s : List UInt32) : Nat → List UInt32
  | 0 => s
  | i + 1 => rnd (rnds W K s i) (K.getD i 0) (W.getD i 0)
theorem rnds_len (W K s : List UInt32) (hs : s.length = 8) (i : Nat) : (rnds W K s i).length = 8 := by
  cases i with
  | zero => exact hs
  | succ i => exact rnd_len _ _ _
/-- The first so many are added. -/
def addK (s v : List UInt32) : Nat → List UInt32
  | 0 => s
  | i + 1 => (addK s v i).set i ((addK s v i).getD i 0 + v.getD i 0)
theorem addK_len (s v : List UInt32) (i : Nat) : (addK s v i).length = s.length := by
  induction i with
  | zero => rfl
  | succ i ih => simp only [addK, List.length_set, ih]
def mixL (s b K : List UInt32) : List UInt32 := addK s (rnds b K s 64) 8
theorem list8 {α : Type} (l : List α) (h : l.length = 8) : ∃ a b c d e f g i, l = [a, b, c, d, e, f, g, i] := by
  match l, h with
  | [a, b, c, d, e, f, g, i], _ => exact ⟨a, b, c, d, e, f, g, i, rfl⟩

theorem rotr_t (x : UInt32) (k : Int) (w : World) (h : 1 ≤ k ∧ k ≤ 31) : Calls Tryz.prog 151 #[U x, .int .i64 k] w fun e w' => e = .returned (U (rotr x k.toNat)) ∧ w' = w :=
  rotr_k x k k.toNat w (by omega) (by omega)
/-- Numbers of 32 bits that lie somewhere. -/
def RdU (w : World) (p : Option Addr) (ks : List UInt32) : Prop := ∀ i (h : i < ks.length), ∃ g o, p = some ⟨g, o, none⟩ ∧ w.cell? ⟨g, o + i, none⟩ = some (U ks[i])
theorem RdU.below {w w' : World} {p : Option Addr} {qs : List UInt32} (h : RdU w p qs) (hb : Below w.heap.size w w') : RdU w' p qs := by
  intro i hi
  obtain ⟨g, o, h1, h2⟩ := h i hi
  exact ⟨g, o, h1, (hb.cell (p := ⟨g, o + i, none⟩) (World.block_lt_of_cell? _ _ h2)).trans h2⟩

/-- A cell of an array by value. -/
theorem index_agg (t e n : Nat) (hu : Tryz.prog.underlying t = some (.array n e)) (hs : (Tryz.prog.info? e).map (·.size) = some 1) (he : Tryz.prog.underlying e = some (.int .u32)) (xs : List UInt32) (hx : xs.length = n) (i : Nat) (hi : i < xs.length) (w : World) :
    (Instr.index t (.agg (xs.map U).toArray) (.int .i64 (i : Int))).run Tryz.prog w = .ok (U (xs[i]'hi)) w := by
  obtain ⟨ti, h1, h2⟩ : ∃ ti, Tryz.prog.info? e = some ti ∧ ti.size = 1 := by simpa using hs
  subst hx
  have h3 : (i : Int) < (xs.length : Int) := by omega
  have h4 : (0 : Int) ≤ (i : Int) := by omega
  simp [Instr.index, asIntOf, run_underlying hu, run_underlying he, sizeOf, typeInfo, h1, h2, h3, part, isAgg, hi]

theorem Tryz.infoA8 : (Tryz.prog.info? 191).map (·.size) = some 8 := by kernel_rfl
def MixR (w : World) (X : List UInt32) (e : Ending) (w' : World) : Prop := e = .returned (.agg (X.map U).toArray) ∧ Below w.heap.size w w'

def MxRel (w : World) (W K s : List UInt32) (v19 : Value) (wr : World) : Prop := ∃ i : Nat, v19 = .int .i64 (i : Int) ∧ i ≤ 64 ∧ ArrU wr w.heap.size 191 s ∧ ArrU wr (w.heap.size + 1) 191 (List.replicate 8 0) ∧ ArrU wr (w.heap.size + 1 + 1) 191 (rnds W K s i) ∧ Below w.heap.size w wr
def MxRel2 (w : World) (s v : List UInt32) (v94 : Value) (wr : World) : Prop := ∃ i : Nat, v94 = .int .i64 (i : Int) ∧ i ≤ 8 ∧ ArrU wr w.heap.size 191 (addK s v i) ∧ ArrU wr (w.heap.size + 1) 191 (List.replicate 8 0) ∧ Below w.heap.size w wr

set_option maxHeartbeats 8000000 in
set_option maxRecDepth 100000 in
theorem mix_c (S : Nat → Prop) (p : Option Addr) (n c : Nat) (b : List UInt8) (q : Option Addr) (nk ck : Nat) (K s : List UInt32) (w : World) (hR : Rd w S p b) (hn : b.length = n) (h64 : 64 ≤ n) (hc : n ≤ c)
    (hs : s.length = 8) (hK : RdU w q K) (hKl : K.length = nk) (hk64 : nk = 64) :
    Calls Tryz.prog 114 #[.agg (s.map U).toArray, .slice p n c, .slice q nk ck] w (MixR w (mixL s (sched b) K)) := by
  subst hk64
  have HK := Lib.hid (And.intro hK hKl)
  have HR := Lib.hid (And.intro hR (And.intro hn hc))
  obtain ⟨s0, s1, s2, s3, s4, s5, s6, s7, rfl⟩ := list8 s hs
  clear hK hKl hR hn hc
  obtain ⟨SB, hSB⟩ : ∃ x, x = sched b := ⟨_, rfl⟩
  have HSB := Lib.hid (And.intro hSB (show SB.length = 64 by rw [hSB]; exact sched_len b))
  rw [← hSB]
  have hA : ∀ W1 w1, W1 = ((w.alloc (.cells #[U s0, U s1, U s2, U s3, U s4, U s5, U s6, U s7] 191)).alloc (.cells #[.int .u32 0, .int .u32 0, .int .u32 0, .int .u32 0, .int .u32 0, .int .u32 0, .int .u32 0, .int .u32 0] 191)).alloc (.cells #[U s0, U s1, U s2, U s3, U s4, U s5, U s6, U s7] 191) →
      Below W1.heap.size W1 w1 → MxRel w SB K [s0, s1, s2, s3, s4, s5, s6, s7] (.int .i64 0) w1 := by
    rintro W1 w1 rfl hb
    have r1 := ArrU.new w 191 [s0, s1, s2, s3, s4, s5, s6, s7]
    have r2 : ArrU _ _ 191 (List.replicate 8 0) := ArrU.new (w.alloc (.cells #[U s0, U s1, U s2, U s3, U s4, U s5, U s6, U s7] 191)) 191 (List.replicate 8 0)
    have r3 := ArrU.new ((w.alloc (.cells #[U s0, U s1, U s2, U s3, U s4, U s5, U s6, U s7] 191)).alloc (.cells #[.int .u32 0, .int .u32 0, .int .u32 0, .int .u32 0, .int .u32 0, .int .u32 0, .int .u32 0, .int .u32 0] 191)) 191 [s0, s1, s2, s3, s4, s5, s6, s7]
    simp only [World.size_alloc] at r2 r3
    have z1 : ∀ (u : World) (o : Obj), Below u.heap.size u (u.alloc o) := fun u o => (Below.refl _ _).alloc (Nat.le_refl _) o
    exact ⟨0, rfl, by omega, ((r1.below (z1 _ _)).below (z1 _ _)).below hb, (r2.below (z1 _ _)).below hb, r3.below hb, (((z1 w _).alloc (by simp) _).alloc (by simp; omega) _).trans (hb.mono (by simp; omega))⟩
  have HA := Lib.hid hA
  clear hA
  have sp : ∀ (wx : World), Below w.heap.size w wx → Calls Tryz.prog 150 #[.slice p n c] wx (fun e w' => e = .returned (.agg (SB.map U).toArray) ∧ Below wx.heap.size wx w') := fun wx hb =>
    (spread_c S p n c b wx (HR.out.1.below hb) HR.out.2.1 h64 HR.out.2.2).mono fun e w' h => by rw [hSB]; exact h
  have SP := Lib.hid sp
  clear sp hSB
  simp only [List.map_cons, List.map_nil]
  go_enter Tryz.func114, Tryz.ntmps114
  go_upto_region 2 with (fail)
  have hb0 : ∀ (u : World) (o : Obj), Below u.heap.size u (u.alloc o) := fun u o => (Below.refl _ _).alloc (Nat.le_refl _) o
  go_wp2_with (go_at_call 150; refine (SP.out _ (((hb0 w _).alloc (by simp) _).alloc (by simp; omega) _)).mono ?_; rintro e w1 ⟨rfl, hB1⟩)
  have HM := Lib.hid (HA.out _ w1 rfl hB1)
  clear hB1 HA
  go_loopw [19] (fun v19 wr => MxRel w SB K [s0, s1, s2, s3, s4, s5, s6, s7] v19 wr) (fun v19 _ => (64 - intOf v19).toNat)
  case atStart => exact HM.out
  case round =>
    clear HM
    obtain ⟨i, rfl, hi, hA3, hA6, hA7, hB⟩ := hrel
    by_cases hlt : i < 64
    · obtain ⟨a0, a1, a2, a3, a4, a5, a6, a7, hv⟩ := list8 _ (rnds_len SB K [s0, s1, s2, s3, s4, s5, s6, s7] rfl i)
      rw [hv] at hA7
      have c0 := hA7.c 0 (by simp)
      have c1 := hA7.c 1 (by simp)
      have c2 := hA7.c 2 (by simp)
      have c3 := hA7.c 3 (by simp)
      have c4 := hA7.c 4 (by simp)
      have c5 := hA7.c 5 (by simp)
      have c6 := hA7.c 6 (by simp)
      have c7 := hA7.c 7 (by simp)
      have f0 := hA7.fr 0
      have f4 := hA7.fr 4
      simp only [List.getElem_cons_zero, List.getElem_cons_succ] at c0 c1 c2 c3 c4 c5 c6 c7
      obtain ⟨gk, ok, rfl, ck⟩ := (HK.out.1.below hB) i (by rw [HK.out.2]; exact hlt)
      have hsl : SB.length = 64 := HSB.out.2
      have ix := fun wx => index_agg 240 173 64 Tryz.underlying240 (by kernel_rfl) Tryz.underlying173 SB hsl i (by rw [hsl]; exact hlt) wx
      obtain ⟨kk, hkk⟩ : ∃ x, x = K[i]'(by rw [HK.out.2]; exact hlt) := ⟨_, rfl⟩
      obtain ⟨ww, hww⟩ : ∃ x, x = SB[i]'(by rw [hsl]; exact hlt) := ⟨_, rfl⟩
      rw [← hkk] at ck
      rw [← hww] at ix
      have hst : rnds SB K [s0, s1, s2, s3, s4, s5, s6, s7] (i + 1) = rnd [a0, a1, a2, a3, a4, a5, a6, a7] kk ww := by
        show rnd (rnds SB K _ i) _ _ = _
        rw [hv, hkk, hww]
        simp only [List.getD_eq_getElem?_getD, List.getElem?_eq_getElem (by rw [HK.out.2]; exact hlt : i < K.length), List.getElem?_eq_getElem (by rw [hsl]; exact hlt : i < SB.length), Option.getD_some]
      have HST := Lib.hid hst
      have HB := Lib.hid (And.intro hA3 (And.intro hA6 (And.intro hA7 hB)))
      have hlI : (i : Int) < 64 := by omega
      have hi0 : (0 : Int) ≤ (i : Int) := by omega
      clear hst hv hkk hww hsl hA3 hA6 hA7 hB
      go_upto_region 5 with (fail)
      go_quiet (fail)
      go_upto_region 6 with (fail)
      go_quiet ((go_at_call 151; exact quiet_on (rotr_t _ _ _ (by omega))))
      go_upto_region 7 with (fail)
      go_quiet ((go_at_call 151; exact quiet_on (rotr_t _ _ _ (by omega))))
      go_upto_region 8 with (fail)
      have hsrc : ∀ (j : Nat) (v : Value), [U a0, U a1, U a2, U a3, U a4, U a5, U a6][j]? = some v → wr.cell? ((⟨w.heap.size + 1 + 1, 0, none⟩ : Addr).add j) = some v := by
        intro j v hv
        have hj : j < 7 := by have := (List.getElem?_eq_some_iff.1 hv).1; simpa using this
        have e : (⟨w.heap.size + 1 + 1, 0, none⟩ : Addr).add j = ⟨w.heap.size + 1 + 1, j, none⟩ := by unfold Addr.add; split <;> simp_all
        rw [e]
        have hc : j = 0 ∨ j = 1 ∨ j = 2 ∨ j = 3 ∨ j = 4 ∨ j = 5 ∨ j = 6 := by omega
        rcases hc with rfl | rfl | rfl | rfl | rfl | rfl | rfl <;> (simp at hv; subst hv; assumption)
      have HS := Lib.hid hsrc
      clear hsrc
      go_region_law (refine step_copy_splice rfl (.tmp 80) (.tmp 81) 192 192 rfl 173 Tryz.underlying192 (by kernel_rfl) _ _ _ _ _ _ rfl rfl (w.heap.size + 1 + 1) 1 [U a0, U a1, U a2, U a3, U a4, U a5, U a6, U a7] 191 HB.out.2.2.1 [U a0, U a1, U a2, U a3, U a4, U a5, U a6] rfl (fun _ => ⟨rfl, _, rfl, HS.out⟩) (by simp) (by simp [U_one]) (w.heap.size + 1 + 1) wr ⟨rfl, rfl, rfl, Nat.le_refl _, fun _ _ => rfl⟩ (Nat.le_refl _) ?_; intro w4 hg4 hb4)
      have hA4 : ArrU w4 (w.heap.size + 1 + 1) 191 [a0, a0, a1, a2, a3, a4, a5, a6] := hg4.out
      have hs4 : w.heap.size + 1 + 1 < w4.heap.size := hA4.lt
      clear c0 c1 c2 c3 c4 c5 c6 c7 f0 f4 ix ck
      have d4 := hA4.c 4 (by simp)
      have g4 := hA4.fr 4
      have g0 := hA4.fr 0
      have d0 := hA4.c 0 (by simp)
      simp only [List.getElem_cons_zero, List.getElem_cons_succ] at d4 d0
      go_wp2
      refine ⟨⟨i + 1, by simp, by omega, ?_, ?_, ?_, ?_⟩, by simp [intOf]; omega⟩
      · exact HB.out.1.only (((Only.of_belowN hb4).setCell _ _ (.inl (Nat.le_refl _))).setCell _ _ (.inl (Nat.le_refl _))) (by omega)
      · exact HB.out.2.1.only (((Only.of_belowN hb4).setCell _ _ (.inl (Nat.le_refl _))).setCell _ _ (.inl (Nat.le_refl _))) (by omega)
      · rw [HST.out]
        exact (hA4.set 4 _).set 0 _
      · exact ((HB.out.2.2.2.trans (hb4.mono (by omega))).setCell (by simp; omega) _).setCell (by simp; omega) _
    · have h64i : i = 64 := by omega
      have hge : ¬ (i : Int) < 64 := by omega
      rw [h64i] at hA7
      obtain ⟨V, hV⟩ : ∃ V, V = rnds SB K [s0, s1, s2, s3, s4, s5, s6, s7] 64 := ⟨_, rfl⟩
      have hVl : V.length = 8 := by rw [hV]; exact rnds_len _ _ _ rfl 64
      rw [← hV] at hA7
      have HV := Lib.hid hV
      have HB := Lib.hid (And.intro hA3 (And.intro hA6 (And.intro hA7 (And.intro hB hVl))))
      clear hlt hi h64i hA3 hA6 hA7 hB hV hVl
      go_upto_region 12 with (fail)
      clear hge
      go_wp2_with (first
        | (refine ld_arrU rfl 191 (.tmp 7) rfl (w.heap.size + 1 + 1) rfl _ V HB.out.2.2.1 _ _ Tryz.underlying191 (by rw [HB.out.2.2.2.2]; exact Tryz.infoA8) ?_))
      go_loopw [94] (fun v94 wr => MxRel2 w [s0, s1, s2, s3, s4, s5, s6, s7] V v94 wr) (fun v94 _ => (8 - intOf v94).toNat)
      case atStart => exact ⟨0, rfl, by omega, HB.out.1, HB.out.2.1, HB.out.2.2.2.1⟩
      case round =>
        have HVl := Lib.hid HB.out.2.2.2.2
        clear HB
        obtain ⟨i, rfl, hi, hA3, hA6, hB⟩ := hrel
        by_cases hlt : i < 8
        · have hsl : (addK [s0, s1, s2, s3, s4, s5, s6, s7] V i).length = 8 := by rw [addK_len]; rfl
          have cc := hA3.c i (by rw [hsl]; exact hlt)
          have ff := hA3.fr i
          have ix := fun wx => index_agg 191 173 8 Tryz.underlying191 (by kernel_rfl) Tryz.underlying173 V HVl.out i (by rw [HVl.out]; exact hlt) wx
          obtain ⟨x1, h1⟩ : ∃ x, x = (addK [s0, s1, s2, s3, s4, s5, s6, s7] V i)[i]'(by rw [hsl]; exact hlt) := ⟨_, rfl⟩
          obtain ⟨x2, h2⟩ : ∃ x, x = V[i]'(by rw [HVl.out]; exact hlt) := ⟨_, rfl⟩
          rw [← h1] at cc
          rw [← h2] at ix
          have hst : addK [s0, s1, s2, s3, s4, s5, s6, s7] V (i + 1) = (addK [s0, s1, s2, s3, s4, s5, s6, s7] V i).set i (x1 + x2) := by
            rw [h1, h2]
            show ((addK _ V i).set i _) = _
            simp only [List.getD_eq_getElem?_getD, List.getElem?_eq_getElem (by rw [HVl.out]; exact hlt : i < V.length), List.getElem?_eq_getElem (by rw [hsl]; exact hlt : i < (addK [s0, s1, s2, s3, s4, s5, s6, s7] V i).length), Option.getD_some]
          have HST := Lib.hid hst
          have HB := Lib.hid (And.intro hA3 (And.intro hA6 hB))
          have hlI : (i : Int) < 8 := by omega
          have hi0 : (0 : Int) ≤ (i : Int) := by omega
          clear hst h1 h2 hsl hA3 hA6 hB
          go_wp2
          refine ⟨⟨i + 1, by simp, by omega, by rw [HST.out]; exact HB.out.1.set i _, HB.out.2.1.only ((Only.refl (fun k => k = w.heap.size) wr).setCell _ _ (.inl rfl)) (by omega), HB.out.2.2.setCell (by simp) _⟩, by simp [intOf]; omega⟩
        · obtain rfl : i = 8 := by omega
          have hsl : (addK [s0, s1, s2, s3, s4, s5, s6, s7] V 8).length = 8 := by rw [addK_len]; rfl
          have HB := Lib.hid (And.intro hA3 (And.intro hA6 (And.intro hB hsl)))
          clear hA3 hA6 hB hsl
          go_upto_region 17 with (fail)
          go_wp2_with (first
            | (refine ld_arrU rfl 191 _ rfl w.heap.size rfl _ _ HB.out.1 _ _ Tryz.underlying191 (by rw [HB.out.2.2.2]; exact Tryz.infoA8) ?_)
            | (refine st_arrU rfl 191 _ _ rfl (w.heap.size + 1) _ rfl rfl _ _ HB.out.2.1 (by rw [HB.out.2.2.2]; exact Tryz.infoA8) (by rw [HB.out.2.2.2]; simp) ?_; intro w5 hA5 hO5))
          refine bodyPost_ret (v := .agg ((addK [s0, s1, s2, s3, s4, s5, s6, s7] V 8).map U).toArray) (results_cell_row (P := Tryz.prog) Tryz.results114 _ _ (w.heap.size + 1) _ _ _ _ rfl hA5 Tryz.underlying191 rfl (by rw [Tryz.infoA8]; simp [HB.out.2.2.2])) rfl (And.intro ?_ ?_)
          · rw [HV.out]; rfl
          · exact below_only HB.out.2.2.1 HB.out.2.2.1.size hO5 (by intro k hk e; omega)
end Go.Proofs.YtolgaapiedbkfaaGreat
/-
  The contract of sha.Sum. Condition: at most 2 to the 47th bytes, less two thousand.
-/
namespace Go.Kx
open Go.RowKit
/-- An array of bytes in a block of its own. -/
def ArrB (w : World) (r t : Nat) (xs : List UInt8) : Prop := w.heap[r]? = some (.cells (xs.map B8).toArray t (0, 0))
theorem ArrB.c {w : World} {r t : Nat} {xs : List UInt8} (h : ArrB w r t xs) (i : Nat) (hi : i < xs.length) : w.cell? ⟨r, i, none⟩ = some (B8 (xs[i]'hi)) := by
  unfold ArrB at h
  simp [World.cell?, h, hi]
theorem ArrB.fr {w : World} {r t : Nat} {xs : List UInt8} (h : ArrB w r t xs) (o : Nat) : w.frozen? ⟨r, o, none⟩ = false := by unfold ArrB at h; simp [World.frozen?, h]
theorem ArrB.lt {w : World} {r t : Nat} {xs : List UInt8} (h : ArrB w r t xs) : r < w.heap.size := (Array.getElem?_eq_some_iff.1 h).1
theorem ArrB.only {w w' : World} {q : Nat → Prop} {r t : Nat} {xs : List UInt8} (h : ArrB w r t xs) (ho : Only q w w') (hd : ¬ q r) : ArrB w' r t xs := (ho.block r h.lt hd).trans h
theorem ArrB.below {w w' : World} {r t : Nat} {xs : List UInt8} (h : ArrB w r t xs) (ho : Below w.heap.size w w') : ArrB w' r t xs := (ho.block r h.lt).trans h
theorem ArrB.new (w : World) (t : Nat) (xs : List UInt8) : ArrB (w.alloc (.cells (xs.map B8).toArray t)) w.heap.size t xs := heap_alloc_new w _
theorem ArrB.set {w : World} {r t : Nat} {xs : List UInt8} (h : ArrB w r t xs) (i : Nat) (x : UInt8) : ArrB (w.setCell ⟨r, i, none⟩ (B8 x)) r t (xs.set i x) := by
  unfold ArrB at *
  simp [World.setCell, Array.getElem?_modify, h, List.map_set]
theorem arrB_ones (xs : List UInt8) : ((xs.map B8).toArray).all (fun v => v.oneCell') = true := by
  rw [Array.all_eq_true_iff_forall_mem]
  intro v hv
  simp only [List.mem_toArray, List.mem_map] at hv
  obtain ⟨x, _, rfl⟩ := hv
  rfl
theorem only_setRow' (w : World) (r : Nat) (C : Array Value) : Only (· = r) w (w.setRow r C) :=
  ⟨rfl, rfl, rfl, by simp, fun k _ hk => by simp only [World.setRow, Array.getElem?_modify]; rw [if_neg (by omega)]⟩
theorem ArrB.setRow {w : World} {r t : Nat} {xs : List UInt8} (h : ArrB w r t xs) (ys : List UInt8) : ArrB (w.setRow r (ys.map B8).toArray) r t ys := by
  unfold ArrB at *
  simp [World.setRow, Array.getElem?_modify, h]
theorem ld_arrB {P : Program} {ops : Array Oper} {rest : List Oper} {op : Oper} {a : Act} {w : World} {Q : Exit → Act → World → Prop} (hgd : op.guard = none) (ty : TypeId) (x : Operand) (ho : op.op = .load ty x)
    (g : Nat) (hx : a.eval x = .pointer (some ⟨g, 0, none⟩)) (t : TypeId) (xs : List UInt8) (hg : ArrB w g t xs) (n e : Nat) (hu : P.underlying ty = some (.array n e)) (hi : (P.info? ty).map (·.size) = some xs.length)
    (h : wpList P ops Q rest (a.put op.dst (.agg (xs.map B8).toArray)) w) : wpList P ops Q (op :: rest) a w :=
  wpList_load_row hgd ty x ho g hx t _ (0, 0) (.array n e) hg hu rfl (by rw [hi]; simp) h
theorem st_arrB {P : Program} {ops : Array Oper} {rest : List Oper} {op : Oper} {a : Act} {w : World} {Q : Exit → Act → World → Prop} (hgd : op.guard = none) (ty : TypeId) (x y : Operand) (ho : op.op = .store ty x y)
    (g : Nat) (xs : List UInt8) (hx : a.eval x = .pointer (some ⟨g, 0, none⟩)) (hy : a.eval y = .agg (xs.map B8).toArray) (t : TypeId) (old : List UInt8) (hg : ArrB w g t old) (hi : (P.info? ty).map (·.size) = some xs.length) (hl : old.length = xs.length)
    (h : ∀ w', ArrB w' g t xs → Only (· = g) w w' → wpList P ops Q rest (a.put op.dst undef) w') : wpList P ops Q (op :: rest) a w :=
  wpList_store_row hgd ty x y ho g _ hx hy t _ hg (by rw [hi]; simp) (by simpa using hl) (arrB_ones xs) (h _ (hg.setRow xs) (only_setRow' w g _))
end Go.Kx
namespace Go.Proofs.YtolgaapiedbkfaaGreat
open Go.RowKit Go.Kx
set_option linter.unusedVariables false
set_option linter.unusedSimpArgs false
attribute [local go_sem ↓] U_add U_mul U_xor U_or U_and U_not U_guard1 U_guard2 U_store exec_stU
attribute [local go_sem] st1_U st1_i

/-- The eight numbers behind so many blocks. -/
def hashS (M : List UInt8) : Nat → List UInt32
  | 0 => rootsL 8 false
  | j + 1 => mixL (hashS M j) (sched (M.drop (64 * j))) (rootsL 64 true)
/-- A byte of the sum. -/
def low8 (x : UInt32) : UInt8 := UInt8.ofNat x.toNat
def outB (s : List UInt32) (i : Nat) : UInt8 := low8 (shr32 (s.getD (i / 4) 0) (24 - 8 * (i % 4)))
def outK (s : List UInt32) : Nat → List UInt8
  | 0 => List.replicate 32 0
  | i + 1 => (outK s i).set i (outB s i)
def sumL (b : List UInt8) : List UInt8 := outK (hashS (padL b) ((padL b).length / 64)) 32
theorem outK_len (s : List UInt32) (i : Nat) : (outK s i).length = 32 := by
  induction i with
  | zero => simp [outK]
  | succ i ih => simp only [outK, List.length_set, ih]
theorem sumL_len (b : List UInt8) : (sumL b).length = 32 := outK_len _ _
theorem mixL_len (s b K : List UInt32) : (mixL s b K).length = s.length := addK_len _ _ _
theorem rootsL_len {n : Nat} (h : n ≤ 64) (c : Bool) : (rootsL n c).length = n := by unfold rootsL; rw [List.length_map]; exact primesL_len h
theorem hashS_len (M : List UInt8) (j : Nat) : (hashS M j).length = 8 := by
  induction j with
  | zero => exact rootsL_len (by omega) false
  | succ j ih => rw [hashS, mixL_len, ih]
theorem RdU.only {w w' : World} {q : Nat → Prop} {g o : Nat} {ks : List UInt32} (h : RdU w (some ⟨g, o, none⟩) ks) (ho : Only q w w') (hd : ¬ q g) : RdU w' (some ⟨g, o, none⟩) ks := by
  intro i hi
  obtain ⟨g', o', h1, h2⟩ := h i hi
  cases h1
  refine ⟨g, o, rfl, ?_⟩
  have hlt := World.block_lt_of_cell? _ _ h2
  exact (World.cell?_of_block (w := w) (w' := w') (ho.block g hlt hd)).trans h2

theorem cvU8 (x : UInt32) (w : World) : (convert 173 5 (U x)).run Tryz.prog w = .ok (.int .u8 ((low8 x).toNat : Int)) w := by
  unfold low8
  have hk : Tryz.prog.intKind 5 = .u8 := by kernel_rfl
  have h2 := run_convert_int (P := Tryz.prog) (w := w) 173 5 .u32 (x.toNat : Int) (by rw [Tryz.underlying173]; rfl) (by rw [hk]; exact Tryz.underlying5)
  have h : IntKind.u8.wrap (x.toNat : Int) = ((UInt8.ofNat x.toNat).toNat : Int) := by
    rw [UInt8.toNat_ofNat']
    unfold IntKind.wrap
    simp [IntKind.bits, IntKind.signed]
  rw [hk, h] at h2
  exact h2
theorem Tryz.infoB32 : (Tryz.prog.info? 29).map (·.size) = some 32 := by kernel_rfl
def SumR (w : World) (X : List UInt8) (e : Ending) (w' : World) : Prop := e = .returned (.agg (X.map B8).toArray) ∧ Below w.heap.size w w'

/-- At the head of the loop over the blocks. -/
def SmRel (w w3 : World) (M : List UInt8) (N C gm : Nat) (v5 : Value) (wr : World) : Prop := ∃ (j cc : Nat) (q : Option Addr), v5 = .slice q (N - 64 * j) cc ∧ 64 * j ≤ N ∧ (64 * j < N → q = some ⟨gm, 64 * j, none⟩ ∧ cc = C - 64 * j) ∧ ArrU wr (w.heap.size + 1) 191 (hashS M j) ∧ Only (· = w.heap.size + 1) w3 wr
def SmMeas (v5 : Value) : Nat := match v5 with
  | .slice _ n _ => n
  | _ => 0
/-- At the head of the loop over the bytes. -/
def SmRel2 (w w3 : World) (s : List UInt32) (v23 : Value) (wr : World) : Prop := ∃ i : Nat, v23 = .int .i64 (i : Int) ∧ i ≤ 32 ∧ ArrB wr w3.heap.size 29 (outK s i) ∧ Below w3.heap.size w3 wr

set_option maxHeartbeats 8000000 in
set_option maxRecDepth 100000 in
theorem sum_c (S : Nat → Prop) (p : Option Addr) (n c : Nat) (b : List UInt8) (w : World) (hR : Rd w S p b) (hp : p = none → c = 0) (hl : b.length + 2000 ≤ 140737488355328) (hn : b.length = n) :
    Calls Tryz.prog 71 #[.slice p n c] w (SumR w (sumL b)) := by
  have HR := Lib.hid (And.intro hR (And.intro hp (And.intro hl hn)))
  clear hR hp hn hl
  obtain ⟨W0, hW0⟩ : ∃ W0, W0 = (w.alloc (.cells #[.int .u8 0, .int .u8 0, .int .u8 0, .int .u8 0, .int .u8 0, .int .u8 0, .int .u8 0, .int .u8 0, .int .u8 0, .int .u8 0, .int .u8 0, .int .u8 0, .int .u8 0, .int .u8 0, .int .u8 0, .int .u8 0, .int .u8 0, .int .u8 0, .int .u8 0, .int .u8 0, .int .u8 0, .int .u8 0, .int .u8 0, .int .u8 0, .int .u8 0, .int .u8 0, .int .u8 0, .int .u8 0, .int .u8 0, .int .u8 0, .int .u8 0, .int .u8 0] 29)).alloc (.cells #[.int .u32 0, .int .u32 0, .int .u32 0, .int .u32 0, .int .u32 0, .int .u32 0, .int .u32 0, .int .u32 0] 191) := ⟨_, rfl⟩
  have hA2 : ArrB W0 w.heap.size 29 (List.replicate 32 0) := by
    have r1 : ArrB _ _ 29 (List.replicate 32 0) := ArrB.new w 29 (List.replicate 32 0)
    rw [hW0]
    exact r1.below ((Below.refl _ _).alloc (Nat.le_refl _) _)
  have hA3 : ArrU W0 (w.heap.size + 1) 191 (List.replicate 8 0) := by
    have r2 : ArrU _ _ 191 (List.replicate 8 0) := ArrU.new (w.alloc (.cells #[.int .u8 0, .int .u8 0, .int .u8 0, .int .u8 0, .int .u8 0, .int .u8 0, .int .u8 0, .int .u8 0, .int .u8 0, .int .u8 0, .int .u8 0, .int .u8 0, .int .u8 0, .int .u8 0, .int .u8 0, .int .u8 0, .int .u8 0, .int .u8 0, .int .u8 0, .int .u8 0, .int .u8 0, .int .u8 0, .int .u8 0, .int .u8 0, .int .u8 0, .int .u8 0, .int .u8 0, .int .u8 0, .int .u8 0, .int .u8 0, .int .u8 0, .int .u8 0] 29)) 191 (List.replicate 8 0)
    simp only [World.size_alloc] at r2
    rw [hW0]
    exact r2
  have hB0 : Below w.heap.size w W0 := by rw [hW0]; exact ((Below.refl _ _).alloc (Nat.le_refl _) _).alloc (by simp) _
  have H0 := Lib.hid (And.intro hA2 (And.intro hA3 hB0))
  have HE := Lib.hid hW0.symm
  have hlt3 := hA3.lt
  clear hW0 hA2 hA3 hB0
  obtain ⟨H8, hH8⟩ : ∃ x, x = rootsL 8 false := ⟨_, rfl⟩
  have hH8l : H8.length = 8 := by rw [hH8]; exact rootsL_len (by omega) false
  obtain ⟨h0, h1, h2, h3, h4, h5, h6, h7, he8⟩ := list8 H8 hH8l
  have R8 : ∀ wx, Calls Tryz.prog 112 #[.int .i64 8, .bool false] wx (RoR wx 8 false) := fun wx => roots_c 8 false wx (by omega)
  have HR8 := Lib.hid (And.intro R8 (And.intro hH8 (And.intro hH8l he8)))
  clear R8 hH8 hH8l he8
  go_enter Tryz.func71, Tryz.ntmps71
  go_upto_region 2 with (fail)
  rw [HE.out]
  go_region_held3 (fun w' => True) (trivial) (first
    | (go_at_call 112; refine (HR8.out.1 _).mono ?_; rintro e w1 ⟨g8, c8, rfl, k1, k2, k3, k4⟩; rw [← HR8.out.2.1, HR8.out.2.2.2] at k1; have HK4 := Lib.hid (And.intro k1 (undrew k4)); clear k1 k4)
    | (refine step_copy_splice rfl (.tmp 8) (.tmp 9) 192 192 rfl 173 Tryz.underlying192 (by kernel_rfl) _ _ _ _ _ _ rfl rfl (w.heap.size + 1) 0 (List.replicate 8 (.int .u32 0)) 191 (H0.out.2.1.below HK4.out.2) [U h0, U h1, U h2, U h3, U h4, U h5, U h6, U h7] rfl (fun _ => ⟨rfl, _, rfl, HK4.out.1.1.cells (g := g8) rfl⟩) (by simp) (by simp [U_one]) (w.heap.size + 1) W0 (HK4.out.2.mono (Nat.le_of_lt hlt3)) (Nat.le_refl _) ?_; intro w4 hg4 hb4))
  have hA4 : ArrU w4 (w.heap.size + 1) 191 H8 := by rw [HR8.out.2.2.2]; exact hg4.out
  have hR4 : ArrB w4 w.heap.size 29 (List.replicate 32 0) := H0.out.1.only (Only.of_belowN hb4) (by omega)
  have hB4 : Below w.heap.size w w4 := H0.out.2.2.trans (hb4.mono (by omega))
  have H4 := Lib.hid (And.intro hA4 (And.intro hR4 hB4))
  clear hA4 hR4 hB4 hg4 hb4 HK4
  have RK := Lib.hid (fun wx => roots_c 64 true wx (by omega))
  obtain ⟨K, hK⟩ : ∃ x, x = rootsL 64 true := ⟨_, rfl⟩
  have HK := Lib.hid (And.intro hK (show K.length = 64 by rw [hK]; exact rootsL_len (by omega) true))
  clear hK
  have hb4w := H4.out.2.2.size
  go_wp2_with (first
    | (go_at_call 112; refine (RK.out w4).mono ?_; rintro e w2 ⟨gk, ck, rfl, k1, k2, k3, k4⟩; rw [← HK.out.1] at k1; have HKR := Lib.hid (And.intro k1 k4); clear k1 k4)
    | (go_at_call 113; refine (padded_c S p n c b w2 ((HR.out.1.below H4.out.2.2).below (HKR.out.2)) HR.out.2.1 HR.out.2.2.1 HR.out.2.2.2).mono ?_; rintro e w3 ⟨gm, N, C, rfl, m1, m2, m3, m4, m5, m6, m7⟩; have HM := Lib.hid (And.intro m1 (And.intro m2 m7)); clear m1 m2 m7))
  obtain ⟨M, hM⟩ : ∃ x, x = padL b := ⟨_, rfl⟩
  have hN64 : N % 64 = 0 := by rw [← HM.out.1]; exact (padL_len b).1
  have hCm : C ≤ 9223372036854775807 := by unfold maxLen at m6; exact m6
  have hB2 : Below w.heap.size w w2 := H4.out.2.2.trans (HKR.out.2.mono hb4w)
  have hB3 : Below w.heap.size w w3 := hB2.trans (HM.out.2.2.mono hB2.size)
  have hA3 : ArrU w3 (w.heap.size + 1) 191 (hashS M 0) := by
    have h := (H4.out.1.below HKR.out.2).below HM.out.2.2
    rw [show hashS M 0 = H8 by rw [HR8.out.2.1]; rfl]
    exact h
  have hR3 : ArrB w3 w.heap.size 29 (List.replicate 32 0) := (H4.out.2.1.below HKR.out.2).below HM.out.2.2
  have hM3 : Rd w3 (fun k => k = gm) (some ⟨gm, 0, none⟩) M ∧ M.length = N := by rw [hM]; exact ⟨HM.out.2.1.rd, HM.out.1⟩
  have hK3 : RdU w3 (some ⟨gk, 0, none⟩) K := by
    have h : RdU w2 (some ⟨gk, 0, none⟩) K := by
      intro i hi
      refine ⟨gk, 0, rfl, ?_⟩
      have hc := HKR.out.1.1.cells (g := gk) rfl i (U K[i]) (by simp [hi])
      have e : (⟨gk, 0, none⟩ : Addr).add i = ⟨gk, 0 + i, none⟩ := by unfold Addr.add; split <;> simp_all
      rwa [e] at hc
    exact h.below HM.out.2.2
  have hs34 : w.heap.size + 1 < w4.heap.size := H4.out.1.lt
  have hs42 := HKR.out.2.size
  have hs23 := HM.out.2.2.size
  have H3 := Lib.hid (And.intro hA3 (And.intro hR3 (And.intro hM3 (And.intro hK3 hB3))))
  have HMM := Lib.hid hM
  clear hA3 hR3 hM3 hK3 hB3 hB2 hM
  go_loopw [5] (fun v5 wr => SmRel w w3 M N C gm v5 wr) (fun v5 _ => SmMeas v5)
  case atStart => exact ⟨0, C, _, rfl, by omega, fun _ => ⟨rfl, rfl⟩, H3.out.1, Only.refl _ _⟩
  case round =>
    obtain ⟨j, cc, q, rfl, hj, hq, hA, hO⟩ := hrel
    have HO := Lib.hid hO
    have hszr := hO.size
    by_cases hlt : 64 * j < N
    · obtain ⟨rfl, rfl⟩ := hq hlt
      have hsl : (hashS M j).length = 8 := hashS_len M j
      have hst : hashS M (j + 1) = mixL (hashS M j) (sched (M.drop (64 * j))) K := by rw [HK.out.1]; rfl
      obtain ⟨n', hn'⟩ : ∃ n', n' = N - 64 * j := ⟨_, rfl⟩
      obtain ⟨c', hc'⟩ : ∃ c', c' = C - 64 * j := ⟨_, rfl⟩
      obtain ⟨o', ho'⟩ : ∃ o', o' = 64 * j := ⟨_, rfl⟩
      rw [← hn', ← hc', ← ho']
      have hRd : Rd wr (fun k => k = gm) (some ⟨gm, 0 + o', none⟩) (M.drop o') := (H3.out.2.2.1.1.only hO (fun k hk e => by omega)).drop o'
      rw [Nat.zero_add] at hRd
      rw [← ho'] at hst
      have hRl : (M.drop o').length = n' := by rw [List.length_drop, H3.out.2.2.1.2]; omega
      have hKr : RdU wr (some ⟨gk, 0, none⟩) K := H3.out.2.2.2.1.only hO (by omega)
      have hn64 : 64 ≤ n' := by omega
      have hnc : n' ≤ c' := by omega
      have hc63 : c' ≤ 9223372036854775807 := by omega
      have HX := Lib.hid (And.intro hRd (And.intro hRl (And.intro hKr (And.intro hA (And.intro hst hsl)))))
      have HJ := Lib.hid (And.intro hn' (And.intro hc' ho'))
      clear hRd hRl hKr hA hst hn' hc' ho' hO hsl hq
      have hn0 : 0 < n' := by omega
      by_cases hcc : c' = 64
      · subst hcc
        have hn64' : n' = 64 := by omega
        have HNN := Lib.hid hn64'
        clear hn64'
        go_wp2_with (first
          | (refine ld_arrU rfl 191 (.tmp 3) rfl (w.heap.size + 1) rfl _ _ HX.out.2.2.2.1 _ _ Tryz.underlying191 (by rw [HX.out.2.2.2.2.2]; exact Tryz.infoA8) ?_)
          | (go_at_call 114; refine (mix_c _ _ n' 64 _ _ _ _ K _ wr HX.out.1 HX.out.2.1 hn64 hnc HX.out.2.2.2.2.2 HX.out.2.2.1 HK.out.2 rfl).mono ?_; rintro e w5 ⟨rfl, hB5⟩; rw [← HX.out.2.2.2.2.1]; have HB5 := Lib.hid hB5; clear hB5)
          | (refine st_arrU rfl 191 (.tmp 3) _ rfl (w.heap.size + 1) _ rfl rfl _ _ (HX.out.2.2.2.1.below HB5.out) (by rw [hashS_len]; exact Tryz.infoA8) (by rw [hashS_len, hashS_len]) ?_; intro w6 hA6 hO6))
        have hO36 : Only (fun k => k = w.heap.size + 1) w3 w6 := (HO.out.then (Only.of_below HB5.out)).then hO6
        refine ⟨⟨j + 1, 0, some ⟨gm, o', none⟩, by have := HJ.out; have := HNN.out; rw [show N - 64 * (j + 1) = 0 by omega], by have := HJ.out; have := HNN.out; omega, fun h => by have := HJ.out; have := HNN.out; omega, hA6, hO36⟩, ?_⟩
        show 0 < n'
        omega
      · go_wp2_with (first
          | (refine ld_arrU rfl 191 (.tmp 3) rfl (w.heap.size + 1) rfl _ _ HX.out.2.2.2.1 _ _ Tryz.underlying191 (by rw [HX.out.2.2.2.2.2]; exact Tryz.infoA8) ?_)
          | (go_at_call 114; refine (mix_c _ _ n' c' _ _ _ _ K _ wr HX.out.1 HX.out.2.1 hn64 hnc HX.out.2.2.2.2.2 HX.out.2.2.1 HK.out.2 rfl).mono ?_; rintro e w5 ⟨rfl, hB5⟩; rw [← HX.out.2.2.2.2.1]; have HB5 := Lib.hid hB5; clear hB5)
          | (refine st_arrU rfl 191 (.tmp 3) _ rfl (w.heap.size + 1) _ rfl rfl _ _ (HX.out.2.2.2.1.below HB5.out) (by rw [hashS_len]; exact Tryz.infoA8) (by rw [hashS_len, hashS_len]) ?_; intro w6 hA6 hO6))
        have hO36 : Only (fun k => k = w.heap.size + 1) w3 w6 := (HO.out.then (Only.of_below HB5.out)).then hO6
        refine ⟨⟨j + 1, c' - 64, some ⟨gm, o' + 64, none⟩, by have := HJ.out; rw [show N - 64 * (j + 1) = n' - 64 by omega], by have := HJ.out; omega, fun h => ⟨by have := HJ.out; rw [show 64 * (j + 1) = o' + 64 by omega], by have := HJ.out; omega⟩, hA6, hO36⟩, ?_⟩
        show n' - 64 < n'
        omega
    · have hjn : j = N / 64 := by omega
      have h0 : N - 64 * j = 0 := by omega
      rw [h0]
      obtain ⟨st, hst⟩ : ∃ x, x = hashS M j := ⟨_, rfl⟩
      have hsl : st.length = 8 := by rw [hst]; exact hashS_len M j
      rw [← hst] at hA
      have HS := Lib.hid (And.intro hst (And.intro hsl (And.intro hA hjn)))
      have hs8 := hA.lt
      clear hq h0 hlt hst hsl hA hO hjn
      obtain ⟨wo, rfl⟩ : ∃ wo : World, wo = wr := ⟨_, rfl⟩
      have h01 : SmRel2 w wo st (.int .i64 0) (wo.alloc (.cells ((List.replicate 32 (0 : UInt8)).map B8).toArray 29)) := ⟨0, rfl, by omega, ArrB.new _ _ _, (Below.refl _ _).alloc (Nat.le_refl _) _⟩
      have H01 := Lib.hid h01
      clear h01
      have cv := cvU8
      go_wp2
      go_loopw [23] (fun v23 wx => SmRel2 w wo st v23 wx) (fun v23 _ => (32 - intOf v23).toNat)
      case atStart => exact H01.out
      case round =>
        obtain ⟨i, rfl, hi, hA, hB⟩ := hrel
        have HB := Lib.hid (And.intro hA hB)
        have hszx := hB.size
        by_cases hlt : i < 32
        · have hol := outK_len st i
          have c1 := (HS.out.2.2.1.below hB).c (i / 4) (by rw [HS.out.2.1]; omega)
          have c2 := hA.c i (by rw [hol]; exact hlt)
          have f2 := hA.fr i
          obtain ⟨X, hX⟩ : ∃ x, x = st[i / 4]'(by rw [HS.out.2.1]; omega) := ⟨_, rfl⟩
          rw [← hX] at c1
          obtain ⟨Y, hY⟩ : ∃ x, x = (outK st i)[i]'(by rw [hol]; exact hlt) := ⟨_, rfl⟩
          rw [← hY] at c2
          have hst : outK st (i + 1) = (outK st i).set i (low8 (shr32 X (24 - 8 * (i % 4)))) := by
            show ((outK st i).set i (outB st i)) = _
            unfold outB
            rw [hX]
            simp only [List.getD_eq_getElem?_getD, List.getElem?_eq_getElem (by rw [HS.out.2.1]; omega : i / 4 < st.length), Option.getD_some]
          have HST := Lib.hid hst
          have hsh := fun (w : World) => U_shr (P := Tryz.prog) (w := w) (t := 173) X .i64 (24 - 8 * ((i : Int) % 4)) (by omega)
          rw [show (24 - 8 * ((i : Int) % 4)).toNat = 24 - 8 * (i % 4) by omega] at hsh
          have hti : ((i : Int) / 4).toNat = i / 4 := by omega
          have hlI : (i : Int) < 32 := by omega
          have hi0 : (0 : Int) ≤ (i : Int) := by omega
          clear hst hX hY hol hA hB
          go_wp2
          refine ⟨⟨i + 1, by simp, by omega, by rw [HST.out]; exact HB.out.1.set i _, HB.out.2.setCell (by simp) _⟩, by simp [intOf]; omega⟩
        · obtain rfl : i = 32 := by omega
          have hol := outK_len st 32
          have hO2 : ArrB wo w.heap.size 29 (List.replicate 32 0) := H3.out.2.1.only HO.out (by omega)
          have HO2 := Lib.hid (And.intro (hO2.below hB) hol)
          have hsr : w.heap.size < wo.heap.size := hO2.lt
          clear hA hB hol hO2
          go_upto_region 14 with (fail)
          go_wp2_with (first
            | (refine ld_arrB rfl 29 (.tmp 6) rfl wo.heap.size rfl _ _ HB.out.1 _ _ Tryz.underlying29 (by rw [HO2.out.2]; exact Tryz.infoB32) ?_)
            | (refine st_arrB rfl 29 (.tmp 2) _ rfl w.heap.size _ rfl rfl _ _ HO2.out.1 (by rw [HO2.out.2]; exact Tryz.infoB32) (by rw [HO2.out.2]; simp) ?_; intro w7 hA7 hO7))
          refine bodyPost_ret (v := .agg ((outK st 32).map B8).toArray) (results_cell_row (P := Tryz.prog) Tryz.results71 _ _ w.heap.size _ _ _ _ rfl hA7 Tryz.underlying29 rfl (by rw [Tryz.infoB32]; simp [HO2.out.2])) rfl (And.intro ?_ ?_)
          · rw [HS.out.1, HS.out.2.2.2, HMM.out]
            unfold sumL
            rw [HM.out.1]
          · have h1 : Below w.heap.size w wo := below_only H3.out.2.2.2.2 H3.out.2.2.2.2.size HO.out (by intro k hk e; omega)
            have h2 := h1.trans (HB.out.2.mono h1.size)
            exact below_only h2 h2.size hO7 (by intro k hk e; omega)
end Go.Proofs.YtolgaapiedbkfaaGreat
/-
  The contracts of math/bits.Add64 and of poly's plus, wide. Condition: a carry of 0 or 1.
-/
namespace Go.Kx
open Go.RowKit
theorem wpList_build_eq {P : Program} {ops : Array Oper} {rest : List Oper} {o : Oper} {a : Act} {w : World} {Q : Exit → Act → World → Prop} (hg : o.guard = none) (t : TypeId) (parts : Array (Nat × Operand)) (ho : o.op = .build t parts)
    {C : Array Value} {l : List (Nat × Value)} (hl : (parts.map fun (i, x) => (i, a.eval x)).toList = l) (hf : P.built t l = some C)
    (h : wpList P ops Q rest (a.put o.dst (.agg C)) w) : wpList P ops Q (o :: rest) a w := by
  subst hl
  exact wpList_build hg t parts ho (by rw [hf]; rfl) (by rw [hf]; exact h)
end Go.Kx
namespace Go.Proofs.YtolgaapiedbkfaaGreat
open Go.RowKit Go.Kx
set_option linter.unusedVariables false
set_option linter.unusedSimpArgs false
set_option maxRecDepth 100000
attribute [local go_sem ↓] D_add D_mul D_xor D_or D_and D_not D_sub D_lss D_eql D_neq
attribute [local go_sem ↓] D_guard1 D_guard2
attribute [local go_sem ↓] exec_stD
attribute [local go_sem] D_cells D_one D_store st1_D
theorem add64_D (x y c : UInt64) (h : c.toNat ≤ 1) (w : World) : (callFunc 175 #[D x, D y, D c]).run Tryz.prog w = .ok (.value (.tuple #[D (x + y + c), D (cy x y c)])) w := by
  have h1 := run_callFunc_extern (P := Tryz.prog) (f := 175) (e := add64Entry) Tryz.func175 (by kernel_rfl) (by kernel_rfl) (by kernel_rfl) (by kernel_rfl) #[D x, D y, D c] w
  have h2 := run_add64 (P := Tryz.prog) (x.toNat : Int) (y.toNat : Int) (c.toNat : Int) (by omega) (by omega) (by omega) (by omega) w
  have hx := x.toNat_lt
  have hy := y.toNat_lt
  have e1 : (((x.toNat : Int) + (y.toNat : Int) + (c.toNat : Int)) % 18446744073709551616) = ((x + y + c).toNat : Int) := by
    rw [UInt64.toNat_add, UInt64.toNat_add]
    omega
  have e2 : (((x.toNat : Int) + (y.toNat : Int) + (c.toNat : Int)) / 18446744073709551616) = ((cy x y c).toNat : Int) := by
    unfold cy
    rw [UInt64.toNat_ofNat', Nat.mod_eq_of_lt (by omega)]
    omega
  rw [e1, e2] at h2
  rw [h1]
  have e3 : (add64Entry #[D x, D y, D c]).run Tryz.prog w = .ok (.tuple #[D (x + y + c), D (cy x y c)]) w := h2
  rw [e3]
  rfl
theorem built_n3 (x y z : UInt64) : Tryz.prog.built 256 [(0, D x), (1, D y), (2, D z)] = some (n3V ⟨x, y, z⟩) := by kernel_rfl
theorem Tryz.infoN3 : (Tryz.prog.info? 256).map (·.size) = some 3 := by kernel_rfl
/-- A number's block. -/
def ArrN (w : World) (r : Nat) (h : N3) : Prop := w.heap[r]? = some (.cells (n3V h) 256 (0, 0))
theorem ArrN.lt {w : World} {r : Nat} {h : N3} (k : ArrN w r h) : r < w.heap.size := (Array.getElem?_eq_some_iff.1 k).1
theorem ArrN.only {w w' : World} {q : Nat → Prop} {r : Nat} {h : N3} (k : ArrN w r h) (ho : Only q w w') (hd : ¬ q r) : ArrN w' r h := (ho.block r k.lt hd).trans k
theorem ArrN.below {w w' : World} {r : Nat} {h : N3} (k : ArrN w r h) (ho : Below w.heap.size w w') : ArrN w' r h := (ho.block r k.lt).trans k
theorem ArrN.new (w : World) (h : N3) : ArrN (w.alloc (.cells (n3V h) 256)) w.heap.size h := heap_alloc_new w _
theorem ArrN.c0 {w : World} {r : Nat} {h : N3} (k : ArrN w r h) : w.cell? ⟨r, 0, none⟩ = some (D h.a) := by unfold ArrN at k; simp [World.cell?, k, n3V]
theorem ArrN.c1 {w : World} {r : Nat} {h : N3} (k : ArrN w r h) : w.cell? ⟨r, 1, none⟩ = some (D h.b) := by unfold ArrN at k; simp [World.cell?, k, n3V]
theorem ArrN.c2 {w : World} {r : Nat} {h : N3} (k : ArrN w r h) : w.cell? ⟨r, 2, none⟩ = some (D h.c) := by unfold ArrN at k; simp [World.cell?, k, n3V]
theorem ArrN.fr {w : World} {r : Nat} {h : N3} (k : ArrN w r h) (o : Nat) : w.frozen? ⟨r, o, none⟩ = false := by unfold ArrN at k; simp [World.frozen?, k]
theorem n3_ones (h : N3) : (n3V h).all (fun v => v.oneCell') = true := by simp [n3V, D_one]
theorem ld_n3 {ops : Array Oper} {rest : List Oper} {op : Oper} {a : Act} {w : World} {Q : Exit → Act → World → Prop} (hgd : op.guard = none) (x : Operand) (ho : op.op = .load 256 x)
    (g : Nat) (hx : a.eval x = .pointer (some ⟨g, 0, none⟩)) (h : N3) (hg : ArrN w g h) (hK : wpList Tryz.prog ops Q rest (a.put op.dst (.agg (n3V h))) w) : wpList Tryz.prog ops Q (op :: rest) a w :=
  wpList_load_row hgd 256 x ho g hx _ _ (0, 0) _ hg Tryz.underlying256 rfl Tryz.infoN3 hK
theorem st_n3 {ops : Array Oper} {rest : List Oper} {op : Oper} {a : Act} {w : World} {Q : Exit → Act → World → Prop} (hgd : op.guard = none) (x y : Operand) (ho : op.op = .store 256 x y)
    (g : Nat) (h : N3) (hx : a.eval x = .pointer (some ⟨g, 0, none⟩)) (hy : a.eval y = .agg (n3V h)) (old : N3) (hg : ArrN w g old)
    (hK : ∀ w', ArrN w' g h → Only (· = g) w w' → wpList Tryz.prog ops Q rest (a.put op.dst undef) w') : wpList Tryz.prog ops Q (op :: rest) a w :=
  wpList_store_row hgd 256 x y ho g _ hx hy _ _ hg Tryz.infoN3 rfl (n3_ones h) (hK _ (by unfold ArrN at *; simp [World.setRow, Array.getElem?_modify, hg]) (only_setRow' w g _))
theorem bld_n3 {ops : Array Oper} {rest : List Oper} {o : Oper} {a : Act} {w : World} {Q : Exit → Act → World → Prop} (hg : o.guard = none) (x y z : Operand) (ho : o.op = .build 256 #[(0, x), (1, y), (2, z)])
    (u v t : UInt64) (hx : a.eval x = D u) (hy : a.eval y = D v) (hz : a.eval z = D t) (h : wpList Tryz.prog ops Q rest (a.put o.dst (.agg (n3V ⟨u, v, t⟩))) w) : wpList Tryz.prog ops Q (o :: rest) a w :=
  wpList_build_eq hg 256 _ ho (by simp [hx, hy, hz]) (built_n3 u v t) h
theorem zero_n3 : (n3V ⟨0, 0, 0⟩) = #[.int .u64 0, .int .u64 0, .int .u64 0] := rfl
/-- The blocks of plus. -/
structure PlI (w : World) (h x : N3) (wx : World) : Prop where
  k : ArrN wx w.heap.size h
  x : ArrN wx (w.heap.size + 1) x
  o : ArrN wx (w.heap.size + 1 + 1) ⟨0, 0, 0⟩
  b : Below w.heap.size w wx
theorem PlI.first (w : World) (h x : N3) : PlI w h x (((w.alloc (.cells (n3V h) 256)).alloc (.cells (n3V x) 256)).alloc (.cells #[.int .u64 0, .int .u64 0, .int .u64 0] 256)) := by
  have a1 := ArrN.new w h
  have a2 := ArrN.new (w.alloc (.cells (n3V h) 256)) x
  have a3 := ArrN.new ((w.alloc (.cells (n3V h) 256)).alloc (.cells (n3V x) 256)) ⟨0, 0, 0⟩
  simp only [World.size_alloc] at a2 a3
  have b1 : ∀ (w : World) o, Below w.heap.size w (w.alloc o) := fun w o => (Below.refl _ _).alloc (Nat.le_refl _) _
  exact ⟨(a1.below (b1 _ _)).below (b1 _ _), a2.below (b1 _ _), a3, (((Below.refl _ w).alloc (Nat.le_refl _) _).alloc (by simp) _).alloc (by simp; omega) _⟩
def BackR (w : World) (v : Value) (e : Ending) (w' : World) : Prop := e = .returned v ∧ Below w.heap.size w w'
theorem wide_c (hi lo a b : UInt64) (w : World) : Calls Tryz.prog 176 #[D hi, D lo, D a, D b] w fun e w' => e = .returned (.tuple #[D (wideH hi lo a b), D (wideL lo a b)]) ∧ w' = w := by
  have h1 := fun wx => add64_D lo (a * b) 0 (by decide) wx
  have h2 : ∀ wx, (callFunc 175 #[D lo, D (a * b), .int .u64 0]).run Tryz.prog wx = .ok (.value (.tuple #[D (lo + a * b), D (cy lo (a * b) 0)])) wx := fun wx => by
    have h := h1 wx
    rw [UInt64.add_zero] at h
    exact h
  go_enter Tryz.func176, Tryz.ntmps176
  go_wp2_with (go_at_call 170; refine (mul64_c a b _).mono ?_; rintro e w' ⟨rfl, rfl⟩)
  clear h1 h2
  go_ret2
  exact ⟨rfl, rfl⟩
set_option maxHeartbeats 4000000 in
theorem plus_c (h x : N3) (w : World) : Calls Tryz.prog 164 #[.agg (n3V h), .agg (n3V x)] w (BackR w (.agg (n3V (plusF h x)))) := by
  have h1 : ∀ wx, (callFunc 175 #[D h.a, D x.a, .int .u64 0]).run Tryz.prog wx = .ok (.value (.tuple #[D (h.a + x.a), D (cy h.a x.a 0)])) wx := fun wx => by
    have h := add64_D h.a x.a 0 (by decide) wx
    rw [UInt64.add_zero] at h
    exact h
  have h2 := fun wx => add64_D h.b x.b (cy h.a x.a 0) (cy_le _ _ _ (by decide)) wx
  have hsz : (n3V h).size = 3 := rfl
  have hsx : (n3V x).size = 3 := rfl
  go_enter Tryz.func164, Tryz.ntmps164
  go_upto_region 1 with (fail)
  refine wp_world (PlI w h x) (PlI.first w h x) ?_
  intro W0 hW
  have c0 := hW.k.c0
  have c1 := hW.k.c1
  have c2 := hW.k.c2
  have d0 := hW.x.c0
  have d1 := hW.x.c1
  have d2 := hW.x.c2
  have HW := Lib.hid hW
  clear hW
  go_wp2_with (first
    | (refine bld_n3 rfl (.tmp 25) (.tmp 26) (.tmp 33) rfl (h.a + x.a) (h.b + x.b + cy h.a x.a 0) (h.c + x.c + cy h.b x.b (cy h.a x.a 0)) rfl rfl rfl ?_)
    | (refine st_n3 rfl (.tmp 4) (.tmp 34) rfl (w.heap.size + 1 + 1) (plusF h x) rfl rfl ⟨0, 0, 0⟩ HW.out.o ?_; intro w1 hA1 hO1))
  refine bodyPost_ret (v := .agg (n3V (plusF h x))) (results_cell_row (P := Tryz.prog) Tryz.results164 _ _ (w.heap.size + 1 + 1) _ _ _ _ rfl hA1 Tryz.underlying256 rfl Tryz.infoN3) rfl (And.intro rfl ?_)
  exact below_only HW.out.b HW.out.b.size hO1 (fun k hk e => by omega)
end Go.Proofs.YtolgaapiedbkfaaGreat
/-
  A region that draws its order, from the middle on: what only reads, then what stands in one order. Of any program; no condition but those that the theorem states.
-/
namespace Go.Kx
open Go.RowKit
/-- The operations that have come up are closed, and none of the tail's is among them. -/
def headB (md : Region.Mode) (ops : Array Oper) (n : Nat) (listed : Array Bool) : Bool :=
  decide (listed.size = ops.size) && ((List.range ops.size).all fun j => !(listed.getD j false) || (match ops[j]? with | some oj => oj.after.all fun e => !(Region.binds md e) || listed.getD e.on false | none => true)) && ((List.range ops.size).all fun t => decide (t < n) || !(listed.getD t true))
theorem headInv_of {md : Region.Mode} {ops : Array Oper} {n : Nat} {listed : Array Bool} (h : headB md ops n listed = true) : HeadInv md ops n listed := by
  simp only [headB, Bool.and_eq_true, decide_eq_true_eq, List.all_eq_true, List.mem_range, Bool.or_eq_true, Bool.not_eq_true'] at h
  obtain ⟨⟨h1, h2⟩, h3⟩ := h
  refine ⟨h1, fun j oj hj hl e he hb => ?_, fun t ht htl => ?_⟩
  · have hjl : j < ops.size := (Array.getElem?_eq_some_iff.1 hj).1
    rcases h2 j hjl with h | h
    · rw [hl] at h; cases h
    · simp only [hj] at h
      rw [Array.all_eq_true'] at h
      have := h e he
      simpa [hb] using this
  · rcases h3 t htl with h | h
    · omega
    · exact h
def stillTailB (md : Region.Mode) (ops : Array Oper) (n k : Nat) (listed : Array Bool) : Bool :=
  Region.noSelect ops && decide (n < ops.size) && decide (k ≤ n) && Region.sinkB md ops n && Region.chainB md ops n && headB md ops n listed && Region.lexHead md ops (ops.size - n) (n - k) k listed
theorem wpAny_still_tail {P : Program} {Q : Exit → Act → World → Prop} {a : Act} {w : World} {l : List Oper} (n k : Nat) (listed : Array Bool) (fuel : Nat) (hf : fuel = l.length - k) (hB : stillTailB .any l.toArray n k listed = true)
    (h : wpStill P l.toArray w (fun a' => wpList P l.toArray Q (l.drop n) a' w) ((l.take n).drop k) a) : wpAny P .any l.toArray Q fuel listed a w := by
  simp only [stillTailB, Bool.and_eq_true, decide_eq_true_eq] at hB
  obtain ⟨⟨⟨⟨⟨⟨hsel, hn⟩, hk⟩, hs⟩, hc⟩, hh⟩, hlex⟩ := hB
  have hn' : n < l.length := by simpa using hn
  have htl : ((l.take n).drop k).length = n - k := by simp; omega
  have hdl : (l.drop n).length = l.toArray.size - n := by simp
  have inv0 := headInv_of hh
  have H := wpAnyL_lex (md := .any) (g := l.toArray.size - n) hsel hs hc hn ((l.take n).drop k) k listed a (fun j hj => by
    rw [htl] at hj
    simp only [List.getElem?_drop, List.getElem?_take, List.getElem?_toArray]
    rw [if_pos (by omega)]) (by rw [htl]; omega) inv0 (by rw [htl]; exact hlex) h
  have := wpAny_of_head (Q' := Q) (g := l.toArray.size - n) (fun listed a' hL => by
    have := wpAny_of_seq (md := .any) (Q' := Q) (l.drop n) n listed a' w (fun j => by simp [List.getElem?_drop]) (by rw [hdl]; exact hL.1) hL.2
    rwa [hdl] at this) _ _ _ H
  have e : n - k + (l.toArray.size - n) = fuel := by simp; omega
  rw [htl, e] at this
  exact this
theorem wpStill_of_quiet {P : Program} {ops : Array Oper} {w : World} {Q : Act → Prop} : ∀ (l : List Oper) (a : Act), wpQuiet P ops (fun x => x = w) Q l a → wpStill P ops w Q l a
  | [], _, h => h
  | o :: rest, a, h => by
    unfold wpStill
    unfold wpQuiet at h
    split
    · rename_i hw
      rw [if_pos hw] at h
      obtain ⟨v, h1, h2⟩ := h
      have h3 := h1 w rfl
      have h4 := wpStill_of_quiet rest _ h2
      unfold Oper.quietAt at h3
      unfold Oper.still
      generalize (execOp a.eval o).run P w = r at h3 ⊢
      cases r with
      | ok n w' =>
        cases n <;> simp only [Oper.quietUpon] at h3 <;> simp only [Oper.stillUpon]
        case value u => obtain ⟨rfl, rfl⟩ := h3; exact ⟨rfl, h4⟩
        case skip => obtain ⟨rfl, rfl⟩ := h3; exact ⟨rfl, h4⟩
        case enter f args => exact ⟨h3.1, v, h3.2, h4⟩
      | halt x w' => exact h3.elim
    · rename_i hw
      rw [if_neg hw] at h
      exact wpStill_of_quiet rest _ h
end Go.Kx
/-
  A region that draws its order and ends in a chain of stores: loads are taken first, as long as the chain has not begun. Of any program; no condition but those that the theorem states.
-/
namespace Go.Kx
open Go.RowKit
section
variable {P : Program} {ops : Array Oper} {Q : Exit → Act → World → Prop} {md : Region.Mode} {S : World → Prop} {n : Nat}

/-- Whatever order is picked for the head; S holds behind each of its operations; then T. -/
def wpAnyT (P : Program) (md : Region.Mode) (ops : Array Oper) (Q : Exit → Act → World → Prop) (S : World → Prop) (n : Nat) (T : Array Bool → Act → World → Prop) : Nat → Array Bool → Act → World → Prop
  | 0, listed, a, w => T listed a w
  | f + 1, listed, a, w =>
    Region.ready md ops listed ≠ [] ∧ ∀ i ∈ Region.ready md ops listed, i < n ∧ wpOp P ops Q i (fun a' w' => S w' ∧ wpAnyT P md ops Q S n T f (listed.setIfInBounds i true) a' w') a w

theorem wpAny_of_T {g : Nat} {T : Array Bool → Act → World → Prop} (hT : ∀ listed a w, T listed a w → wpAny P md ops Q g listed a w) :
    ∀ (f : Nat) (listed : Array Bool) (a : Act) (w : World), wpAnyT P md ops Q S n T f listed a w → wpAny P md ops Q (f + g) listed a w
  | 0, listed, a, w, h => by rw [Nat.zero_add]; exact hT _ _ _ h
  | f + 1, listed, a, w, h => by
    rw [show f + 1 + g = (f + g) + 1 by omega]
    exact ⟨fun h0 => absurd h0 h.1, fun i hi => wpOp_mono (fun a' w' h' => wpAny_of_T hT f _ a' w' h'.2) (h.2 i hi).2⟩

theorem wpAnyT_first {T : Array Bool → Act → World → Prop} {i : Nat} {oi : Oper} {v : Value} (hi : ops[i]? = some oi) (hsel : ∀ (j : Nat) (o : Oper) cs b, ops[j]? = some o → o.op ≠ .select cs b)
    (hQ : ∀ c a w, Q (.panic c) (a.put oi.dst v) w → Q (.panic c) a w)
    (hs : Region.sinkB md ops n = true) (hc : Region.chainB md ops n = true) (hn : n < ops.size) (hin : i < n)
    (hdone : ∀ listed a w, T listed a w → ∀ j ∈ Region.ready md ops listed, n ≤ j) :
    ∀ (f : Nat) (listed : Array Bool) (a : Act) (w : World), HeadInv md ops n listed →
      (∀ j oj, ops[j]? = some oj → j ≠ i → listed.getD j true = false → (∀ e ∈ oj.after, Region.binds md e = true → e.on ≠ i) → oi.apart ops oj = true) →
      i ∈ Region.ready md ops listed → YieldsIf P ops S oi v a → S w →
      wpAnyT P md ops Q S n T f (listed.setIfInBounds i true) (a.put oi.dst v) w → wpAnyT P md ops Q S n T (f + 1) listed a w := by
  intro f
  induction f with
  | zero =>
    intro listed a w inv _ hr hy hS H
    have hun := (mem_ready.1 hr).1
    refine ⟨fun h => (by rw [h] at hr; cases hr), fun j hj => ?_⟩
    have hjn : j < n := by
      rcases Nat.lt_or_ge j n with h | h
      · exact h
      · exact absurd hj (tail_waits hs hc hn inv _ i rfl hin hun j h)
    refine ⟨hjn, ?_⟩
    by_cases hji : j = i
    · subst hji; exact hy.wpOp hi hS ⟨hS, H⟩
    · have := hdone _ _ _ H j (ready_mono hj hji)
      omega
  | succ f ih =>
    intro listed a w inv hfree hr hy hS H
    have hun := (mem_ready.1 hr).1
    refine ⟨fun h => (by rw [h] at hr; cases hr), fun j hj => ?_⟩
    have hjn : j < n := by
      rcases Nat.lt_or_ge j n with h | h
      · exact h
      · exact absurd hj (tail_waits hs hc hn inv _ i rfl hin hun j h)
    refine ⟨hjn, ?_⟩
    by_cases hji : j = i
    · subst hji; exact hy.wpOp hi hS ⟨hS, H⟩
    · have h1 := (H.2 j (ready_mono hj hji)).2
      obtain ⟨hjun, oj, hoj, hall⟩ := mem_ready.1 hj
      have hnot : ∀ e ∈ oj.after, Region.binds md e = true → e.on ≠ i := fun e he hb heq => by
        have h1 := hall e he hb
        rw [heq, getD_both hun] at h1
        cases h1
      have h2 := wpOp_putIf hoj (hfree j oj hoj hji hjun hnot) (fun cs b => hsel i oi cs b hi) (fun cs b => hsel j oj cs b hoj) hQ hy h1
      have hfree' : ∀ k ok, ops[k]? = some ok → k ≠ i → (listed.setIfInBounds j true).getD k true = false →
          (∀ e ∈ ok.after, Region.binds md e = true → e.on ≠ i) → oi.apart ops ok = true := fun k ok hk hki hun hno => by
        refine hfree k ok hk hki ?_ hno
        by_cases hjk : j = k
        · subst hjk; exact hjun
        · rw [getD_set_ne true hjk] at hun; exact hun
      refine wpOp_mono (fun a' w' h3 => ⟨h3.2.1, ih (listed.setIfInBounds j true) a' w' (inv.set hj hjn) hfree' (ready_mono hr (Ne.symm hji)) h3.1 h3.2.1 ?_⟩) h2
      rw [Array.setIfInBounds_comm _ _ hji]
      exact h3.2.2

/-- The tail, in its one order. -/
def TailT (P : Program) (ops : Array Oper) (Q : Exit → Act → World → Prop) (n : Nat) (tl : List Oper) (listed : Array Bool) (a : Act) (w : World) : Prop := Region.seqB .any ops tl.length n listed = true ∧ wpList P ops Q tl a w
/-- What a taking asks of the region, as one Bool. -/
def takeB (ops : Array Oper) (n i : Nat) (listed : Array Bool) : Bool :=
  Region.noSelect ops && decide (n < ops.size) && decide (i < n) && Region.sinkB .any ops n && Region.chainB .any ops n && headB .any ops n listed && Region.free .any ops listed i && (Region.ready .any ops listed).contains i
/-- Number i is taken first. -/
theorem wpAnyT_take {tl : List Oper} {i : Nat} {oi : Oper} {v : Value} {fuel : Nat} {listed : Array Bool} {a : Act} {w : World} (hi : ops[i]? = some oi)
    (hB : takeB ops n i listed = true) (hQ : ∀ c a w, Q (.panic c) (a.put oi.dst v) w → Q (.panic c) a w) (hw : Region.wanted oi (yielded ops a.tmps) = true) (hy : ∀ w, S w → (execOp a.eval oi).run P w = .ok (.value v) w) (hS : S w)
    (h : wpAnyT P .any ops Q S n (TailT P ops Q n tl) fuel (listed.setIfInBounds i true) (a.put oi.dst v) w) : wpAnyT P .any ops Q S n (TailT P ops Q n tl) (fuel + 1) listed a w := by
  simp only [takeB, Bool.and_eq_true, decide_eq_true_eq] at hB
  obtain ⟨⟨⟨⟨⟨⟨⟨hsel, hn⟩, hin⟩, hs⟩, hc⟩, hh⟩, hf⟩, hr⟩ := hB
  exact wpAnyT_first hi (Region.noSelect_spec hsel) hQ hs hc hn hin (fun listed a w hT => seqB_ready hT.1) fuel listed a w (headInv_of hh) (Region.free_spec hi hf) (by simpa using hr) (.inl ⟨hw, hy⟩) hS h
/-- Each of rs comes up next. -/
def AllReadyT (P : Program) (ops : Array Oper) (Q : Exit → Act → World → Prop) (S : World → Prop) (n : Nat) (T : Array Bool → Act → World → Prop) (fuel : Nat) (listed : Array Bool) (a : Act) (w : World) (rs : List Nat) : Prop :=
  ∀ i ∈ rs, i < n ∧ wpOp P ops Q i (fun a' w' => S w' ∧ wpAnyT P .any ops Q S n T fuel (listed.setIfInBounds i true) a' w') a w
theorem AllReadyT.nil {T : Array Bool → Act → World → Prop} {fuel : Nat} {listed : Array Bool} {a : Act} {w : World} : AllReadyT P ops Q S n T fuel listed a w [] := fun _ h => by cases h
def ShutT (p : Prop) : Prop := p
theorem ShutT.out {p : Prop} (h : ShutT p) : p := h
theorem AllReadyT.cons {T : Array Bool → Act → World → Prop} {fuel : Nat} {listed : Array Bool} {a : Act} {w : World} {i : Nat} {o : Oper} {rs : List Nat} (ho : ops[i]? = some o) (hin : i < n)
    (h : ∀ K' : Act → World → Prop, ShutT (∀ a w, S w → wpAnyT P .any ops Q S n T fuel (listed.setIfInBounds i true) a w → K' a w) → if Region.wanted o (yielded ops a.tmps) = true then Oper.wp P o a w K' Q else K' (a.put o.dst undef) w)
    (hs : AllReadyT P ops Q S n T fuel listed a w rs) : AllReadyT P ops Q S n T fuel listed a w (i :: rs) := fun j hj => by
  rcases List.mem_cons.1 hj with rfl | hj
  · exact ⟨hin, wpOp_step ho (fun K' hK => h K' (fun a w hS hW => hK a w ⟨hS, hW⟩))⟩
  · exact hs j hj
theorem wpAnyT_ready {T : Array Bool → Act → World → Prop} {rs : List Nat} {fuel : Nat} {listed : Array Bool} {a : Act} {w : World} (hr : Region.ready .any ops listed = rs) (hne : rs ≠ [])
    (h : AllReadyT P ops Q S n T fuel listed a w rs) : wpAnyT P .any ops Q S n T (fuel + 1) listed a w := ⟨by rw [hr]; exact hne, by rw [hr]; exact h⟩
theorem wpAnyT_tail {tl : List Oper} {listed : Array Bool} {a : Act} {w : World} (hB : Region.seqB .any ops tl.length n listed = true) (h : wpList P ops Q tl a w) : wpAnyT P .any ops Q S n (TailT P ops Q n tl) 0 listed a w := ⟨hB, h⟩
end
/-- A region whose operations from n on are its tail. -/
theorem wp_region_tail {P : Program} {l : List Oper} {Q : Exit → Act → World → Prop} {id : Nat} {a : Act} {w : World} (S : World → Prop) (n : Nat) (hm : P.follows .mixedOrders = true) (hn : n ≤ l.length)
    (h : wpAnyT P .any l.toArray Q S n (TailT P l.toArray Q n (l.drop n)) n (Array.replicate l.toArray.size false) a w.drew) : (Code.region id l.toArray true).wp P Q a w := by
  refine wp_region_any hm ?_
  have hdl : (l.drop n).length = l.toArray.size - n := by simp
  have := wpAny_of_T (g := l.toArray.size - n) (fun listed a' w' hT => by
    have := wpAny_of_seq (md := .any) (Q' := Q) (l.drop n) n listed a' w' (fun j => by simp [List.getElem?_drop]) hT.1 hT.2
    rwa [hdl] at this) _ _ _ _ h
  have e : n + (l.toArray.size - n) = l.toArray.size := by simp; omega
  rw [e] at this
  exact this
end Go.Kx
