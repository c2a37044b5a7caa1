/-
  The contract of sha.mix. Condition: at least 64 bytes, 64 constants.
-/
import Derived.Test.YtegmimnhkohaoaaZg2
import Derived.Laws.CopyOwn
import Derived.Deep.RegionLaw
namespace Go.Proofs.Ytegmimnhkohaoaa
open Go.RowKit Go.Kx
set_option linter.unusedVariables false
set_option linter.unusedSimpArgs false
attribute [local go_sem ↓] U_add U_mul U_xor U_or U_and U_not U_shl U_shr U_guard1 U_guard2 U_store exec_stU
attribute [local go_sem] st1_U st1_i

theorem sched_len (b : List UInt8) : (sched b).length = 64 := by unfold sched; rw [schedK_len]
/-- One round. -/
def rnd (v : List UInt32) (k w : UInt32) : List UInt32 :=
  match v with
  | [a, b, c, d, e, f, g, h] =>
    let t := h + (rotr e 6 ^^^ rotr e 11 ^^^ rotr e 25) + (e &&& f ||| ~~~e &&& g) + k + w
    let u := (rotr a 2 ^^^ rotr a 13 ^^^ rotr a 22) + (a &&& b ||| a &&& c ||| b &&& c)
    [t + u, a, b, c, d + t, e, f, g]
  | _ => List.replicate 8 0
theorem rnd_len (v : List UInt32) (k w : UInt32) : (rnd v k w).length = 8 := by
  unfold rnd
  split <;> simp
def rnds (W K s : List UInt32) : Nat → List UInt32
  | 0 => s
  | i + 1 => rnd (rnds W K s i) (K.getD i 0) (W.getD i 0)
theorem rnds_len (W K s : List UInt32) (hs : s.length = 8) (i : Nat) : (rnds W K s i).length = 8 := by
  cases i with
  | zero => exact hs
  | succ i => exact rnd_len _ _ _
/-- The first so many are added. -/
def addK (s v : List UInt32) : Nat → List UInt32
  | 0 => s
  | i + 1 => (addK s v i).set i ((addK s v i).getD i 0 + v.getD i 0)
theorem addK_len (s v : List UInt32) (i : Nat) : (addK s v i).length = s.length := by
  induction i with
  | zero => rfl
  | succ i ih => simp only [addK, List.length_set, ih]
def mixL (s b K : List UInt32) : List UInt32 := addK s (rnds b K s 64) 8
theorem list8 {α : Type} (l : List α) (h : l.length = 8) : ∃ a b c d e f g i, l = [a, b, c, d, e, f, g, i] := by
  match l, h with
  | [a, b, c, d, e, f, g, i], _ => exact ⟨a, b, c, d, e, f, g, i, rfl⟩

theorem rotr_t (x : UInt32) (k : Int) (w : World) (h : 1 ≤ k ∧ k ≤ 31) : Calls Try.prog 118 #[U x, .int .i64 k] w fun e w' => e = .returned (U (rotr x k.toNat)) ∧ w' = w :=
  rotr_k x k k.toNat w (by omega) (by omega)
/-- Numbers of 32 bits that lie somewhere. -/
def RdU (w : World) (p : Option Addr) (ks : List UInt32) : Prop := ∀ i (h : i < ks.length), ∃ g o, p = some ⟨g, o, none⟩ ∧ w.cell? ⟨g, o + i, none⟩ = some (U ks[i])
theorem RdU.below {w w' : World} {p : Option Addr} {qs : List UInt32} (h : RdU w p qs) (hb : Below w.heap.size w w') : RdU w' p qs := by
  intro i hi
  obtain ⟨g, o, h1, h2⟩ := h i hi
  exact ⟨g, o, h1, (hb.cell (p := ⟨g, o + i, none⟩) (World.block_lt_of_cell? _ _ h2)).trans h2⟩

/-- A cell of an array by value. -/
theorem index_agg (t e n : Nat) (hu : Try.prog.underlying t = some (.array n e)) (hs : (Try.prog.info? e).map (·.size) = some 1) (he : Try.prog.underlying e = some (.int .u32)) (xs : List UInt32) (hx : xs.length = n) (i : Nat) (hi : i < xs.length) (w : World) :
    (Instr.index t (.agg (xs.map U).toArray) (.int .i64 (i : Int))).run Try.prog w = .ok (U (xs[i]'hi)) w := by
  obtain ⟨ti, h1, h2⟩ : ∃ ti, Try.prog.info? e = some ti ∧ ti.size = 1 := by simpa using hs
  subst hx
  have h3 : (i : Int) < (xs.length : Int) := by omega
  have h4 : (0 : Int) ≤ (i : Int) := by omega
  simp [Instr.index, asIntOf, run_underlying hu, run_underlying he, sizeOf, typeInfo, h1, h2, h3, part, isAgg, hi]

theorem Try.infoA8 : (Try.prog.info? 143).map (·.size) = some 8 := by kernel_rfl
def MixR (w : World) (X : List UInt32) (e : Ending) (w' : World) : Prop := e = .returned (.agg (X.map U).toArray) ∧ Below w.heap.size w w'

def MxRel (w : World) (W K s : List UInt32) (v19 : Value) (wr : World) : Prop := ∃ i : Nat, v19 = .int .i64 (i : Int) ∧ i ≤ 64 ∧ ArrU wr w.heap.size 143 s ∧ ArrU wr (w.heap.size + 1) 143 (List.replicate 8 0) ∧ ArrU wr (w.heap.size + 1 + 1) 143 (rnds W K s i) ∧ Below w.heap.size w wr
def MxRel2 (w : World) (s v : List UInt32) (v94 : Value) (wr : World) : Prop := ∃ i : Nat, v94 = .int .i64 (i : Int) ∧ i ≤ 8 ∧ ArrU wr w.heap.size 143 (addK s v i) ∧ ArrU wr (w.heap.size + 1) 143 (List.replicate 8 0) ∧ Below w.heap.size w wr

set_option maxHeartbeats 8000000 in
set_option maxRecDepth 100000 in
theorem mix_c (S : Nat → Prop) (p : Option Addr) (n c : Nat) (b : List UInt8) (q : Option Addr) (nk ck : Nat) (K s : List UInt32) (w : World) (hR : Rd w S p b) (hn : b.length = n) (h64 : 64 ≤ n) (hc : n ≤ c)
    (hs : s.length = 8) (hK : RdU w q K) (hKl : K.length = nk) (hk64 : nk = 64) :
    Calls Try.prog 108 #[.agg (s.map U).toArray, .slice p n c, .slice q nk ck] w (MixR w (mixL s (sched b) K)) := by
  subst hk64
  have HK := Lib.hid (And.intro hK hKl)
  have HR := Lib.hid (And.intro hR (And.intro hn hc))
  obtain ⟨s0, s1, s2, s3, s4, s5, s6, s7, rfl⟩ := list8 s hs
  clear hK hKl hR hn hc
  obtain ⟨SB, hSB⟩ : ∃ x, x = sched b := ⟨_, rfl⟩
  have HSB := Lib.hid (And.intro hSB (show SB.length = 64 by rw [hSB]; exact sched_len b))
  rw [← hSB]
  have hA : ∀ W1 w1, W1 = ((w.alloc (.cells #[U s0, U s1, U s2, U s3, U s4, U s5, U s6, U s7] 143)).alloc (.cells #[.int .u32 0, .int .u32 0, .int .u32 0, .int .u32 0, .int .u32 0, .int .u32 0, .int .u32 0, .int .u32 0] 143)).alloc (.cells #[U s0, U s1, U s2, U s3, U s4, U s5, U s6, U s7] 143) →
      Below W1.heap.size W1 w1 → MxRel w SB K [s0, s1, s2, s3, s4, s5, s6, s7] (.int .i64 0) w1 := by
    rintro W1 w1 rfl hb
    have r1 := ArrU.new w 143 [s0, s1, s2, s3, s4, s5, s6, s7]
    have r2 : ArrU _ _ 143 (List.replicate 8 0) := ArrU.new (w.alloc (.cells #[U s0, U s1, U s2, U s3, U s4, U s5, U s6, U s7] 143)) 143 (List.replicate 8 0)
    have r3 := ArrU.new ((w.alloc (.cells #[U s0, U s1, U s2, U s3, U s4, U s5, U s6, U s7] 143)).alloc (.cells #[.int .u32 0, .int .u32 0, .int .u32 0, .int .u32 0, .int .u32 0, .int .u32 0, .int .u32 0, .int .u32 0] 143)) 143 [s0, s1, s2, s3, s4, s5, s6, s7]
    simp only [World.size_alloc] at r2 r3
    have z1 : ∀ (u : World) (o : Obj), Below u.heap.size u (u.alloc o) := fun u o => (Below.refl _ _).alloc (Nat.le_refl _) o
    exact ⟨0, rfl, by omega, ((r1.below (z1 _ _)).below (z1 _ _)).below hb, (r2.below (z1 _ _)).below hb, r3.below hb, (((z1 w _).alloc (by simp) _).alloc (by simp; omega) _).trans (hb.mono (by simp; omega))⟩
  have HA := Lib.hid hA
  clear hA
  have sp : ∀ (wx : World), Below w.heap.size w wx → Calls Try.prog 117 #[.slice p n c] wx (fun e w' => e = .returned (.agg (SB.map U).toArray) ∧ Below wx.heap.size wx w') := fun wx hb =>
    (spread_c S p n c b wx (HR.out.1.below hb) HR.out.2.1 h64 HR.out.2.2).mono fun e w' h => by rw [hSB]; exact h
  have SP := Lib.hid sp
  clear sp hSB
  simp only [List.map_cons, List.map_nil]
  go_enter Try.func108, Try.ntmps108
  go_upto_region 2 with (fail)
  have hb0 : ∀ (u : World) (o : Obj), Below u.heap.size u (u.alloc o) := fun u o => (Below.refl _ _).alloc (Nat.le_refl _) o
  go_wp2_with (go_at_call 117; refine (SP.out _ (((hb0 w _).alloc (by simp) _).alloc (by simp; omega) _)).mono ?_; rintro e w1 ⟨rfl, hB1⟩)
  have HM := Lib.hid (HA.out _ w1 rfl hB1)
  clear hB1 HA
  go_loopw [19] (fun v19 wr => MxRel w SB K [s0, s1, s2, s3, s4, s5, s6, s7] v19 wr) (fun v19 _ => (64 - intOf v19).toNat)
  case atStart => exact HM.out
  case round =>
    clear HM
    obtain ⟨i, rfl, hi, hA3, hA6, hA7, hB⟩ := hrel
    by_cases hlt : i < 64
    · obtain ⟨a0, a1, a2, a3, a4, a5, a6, a7, hv⟩ := list8 _ (rnds_len SB K [s0, s1, s2, s3, s4, s5, s6, s7] rfl i)
      rw [hv] at hA7
      have c0 := hA7.c 0 (by simp)
      have c1 := hA7.c 1 (by simp)
      have c2 := hA7.c 2 (by simp)
      have c3 := hA7.c 3 (by simp)
      have c4 := hA7.c 4 (by simp)
      have c5 := hA7.c 5 (by simp)
      have c6 := hA7.c 6 (by simp)
      have c7 := hA7.c 7 (by simp)
      have f0 := hA7.fr 0
      have f4 := hA7.fr 4
      simp only [List.getElem_cons_zero, List.getElem_cons_succ] at c0 c1 c2 c3 c4 c5 c6 c7
      obtain ⟨gk, ok, rfl, ck⟩ := (HK.out.1.below hB) i (by rw [HK.out.2]; exact hlt)
      have hsl : SB.length = 64 := HSB.out.2
      have ix := fun wx => index_agg 147 142 64 Try.underlying147 (by kernel_rfl) Try.underlying142 SB hsl i (by rw [hsl]; exact hlt) wx
      obtain ⟨kk, hkk⟩ : ∃ x, x = K[i]'(by rw [HK.out.2]; exact hlt) := ⟨_, rfl⟩
      obtain ⟨ww, hww⟩ : ∃ x, x = SB[i]'(by rw [hsl]; exact hlt) := ⟨_, rfl⟩
      rw [← hkk] at ck
      rw [← hww] at ix
      have hst : rnds SB K [s0, s1, s2, s3, s4, s5, s6, s7] (i + 1) = rnd [a0, a1, a2, a3, a4, a5, a6, a7] kk ww := by
        show rnd (rnds SB K _ i) _ _ = _
        rw [hv, hkk, hww]
        simp only [List.getD_eq_getElem?_getD, List.getElem?_eq_getElem (by rw [HK.out.2]; exact hlt : i < K.length), List.getElem?_eq_getElem (by rw [hsl]; exact hlt : i < SB.length), Option.getD_some]
      have HST := Lib.hid hst
      have HB := Lib.hid (And.intro hA3 (And.intro hA6 (And.intro hA7 hB)))
      have hlI : (i : Int) < 64 := by omega
      have hi0 : (0 : Int) ≤ (i : Int) := by omega
      clear hst hv hkk hww hsl hA3 hA6 hA7 hB
      go_upto_region 5 with (fail)
      go_quiet (fail)
      go_upto_region 6 with (fail)
      go_quiet ((go_at_call 118; exact quiet_on (rotr_t _ _ _ (by omega))))
      go_upto_region 7 with (fail)
      go_quiet ((go_at_call 118; exact quiet_on (rotr_t _ _ _ (by omega))))
      go_upto_region 8 with (fail)
      have hsrc : ∀ (j : Nat) (v : Value), [U a0, U a1, U a2, U a3, U a4, U a5, U a6][j]? = some v → wr.cell? ((⟨w.heap.size + 1 + 1, 0, none⟩ : Addr).add j) = some v := by
        intro j v hv
        have hj : j < 7 := by have := (List.getElem?_eq_some_iff.1 hv).1; simpa using this
        have e : (⟨w.heap.size + 1 + 1, 0, none⟩ : Addr).add j = ⟨w.heap.size + 1 + 1, j, none⟩ := by unfold Addr.add; split <;> simp_all
        rw [e]
        have hc : j = 0 ∨ j = 1 ∨ j = 2 ∨ j = 3 ∨ j = 4 ∨ j = 5 ∨ j = 6 := by omega
        rcases hc with rfl | rfl | rfl | rfl | rfl | rfl | rfl <;> (simp at hv; subst hv; assumption)
      have HS := Lib.hid hsrc
      clear hsrc
      go_region_law (refine step_copy_splice rfl (.tmp 80) (.tmp 81) 144 144 rfl 142 Try.underlying144 (by kernel_rfl) _ _ _ _ _ _ rfl rfl (w.heap.size + 1 + 1) 1 [U a0, U a1, U a2, U a3, U a4, U a5, U a6, U a7] 143 HB.out.2.2.1 [U a0, U a1, U a2, U a3, U a4, U a5, U a6] rfl (fun _ => ⟨rfl, _, rfl, HS.out⟩) (by simp) (by simp [U_one]) (w.heap.size + 1 + 1) wr ⟨rfl, rfl, rfl, Nat.le_refl _, fun _ _ => rfl⟩ (Nat.le_refl _) ?_; intro w4 hg4 hb4)
      have hA4 : ArrU w4 (w.heap.size + 1 + 1) 143 [a0, a0, a1, a2, a3, a4, a5, a6] := hg4.out
      have hs4 : w.heap.size + 1 + 1 < w4.heap.size := hA4.lt
      clear c0 c1 c2 c3 c4 c5 c6 c7 f0 f4 ix ck
      have d4 := hA4.c 4 (by simp)
      have g4 := hA4.fr 4
      have g0 := hA4.fr 0
      have d0 := hA4.c 0 (by simp)
      simp only [List.getElem_cons_zero, List.getElem_cons_succ] at d4 d0
      go_wp2
      refine ⟨⟨i + 1, by simp, by omega, ?_, ?_, ?_, ?_⟩, by simp [intOf]; omega⟩
      · exact HB.out.1.only (((Only.of_belowN hb4).setCell _ _ (.inl (Nat.le_refl _))).setCell _ _ (.inl (Nat.le_refl _))) (by omega)
      · exact HB.out.2.1.only (((Only.of_belowN hb4).setCell _ _ (.inl (Nat.le_refl _))).setCell _ _ (.inl (Nat.le_refl _))) (by omega)
      · rw [HST.out]
        exact (hA4.set 4 _).set 0 _
      · exact ((HB.out.2.2.2.trans (hb4.mono (by omega))).setCell (by simp; omega) _).setCell (by simp; omega) _
    · have h64i : i = 64 := by omega
      have hge : ¬ (i : Int) < 64 := by omega
      rw [h64i] at hA7
      obtain ⟨V, hV⟩ : ∃ V, V = rnds SB K [s0, s1, s2, s3, s4, s5, s6, s7] 64 := ⟨_, rfl⟩
      have hVl : V.length = 8 := by rw [hV]; exact rnds_len _ _ _ rfl 64
      rw [← hV] at hA7
      have HV := Lib.hid hV
      have HB := Lib.hid (And.intro hA3 (And.intro hA6 (And.intro hA7 (And.intro hB hVl))))
      clear hlt hi h64i hA3 hA6 hA7 hB hV hVl
      go_upto_region 12 with (fail)
      clear hge
      go_wp2_with (first
        | (refine ld_arrU rfl 143 (.tmp 7) rfl (w.heap.size + 1 + 1) rfl _ V HB.out.2.2.1 _ _ Try.underlying143 (by rw [HB.out.2.2.2.2]; exact Try.infoA8) ?_))
      go_loopw [94] (fun v94 wr => MxRel2 w [s0, s1, s2, s3, s4, s5, s6, s7] V v94 wr) (fun v94 _ => (8 - intOf v94).toNat)
      case atStart => exact ⟨0, rfl, by omega, HB.out.1, HB.out.2.1, HB.out.2.2.2.1⟩
      case round =>
        have HVl := Lib.hid HB.out.2.2.2.2
        clear HB
        obtain ⟨i, rfl, hi, hA3, hA6, hB⟩ := hrel
        by_cases hlt : i < 8
        · have hsl : (addK [s0, s1, s2, s3, s4, s5, s6, s7] V i).length = 8 := by rw [addK_len]; rfl
          have cc := hA3.c i (by rw [hsl]; exact hlt)
          have ff := hA3.fr i
          have ix := fun wx => index_agg 143 142 8 Try.underlying143 (by kernel_rfl) Try.underlying142 V HVl.out i (by rw [HVl.out]; exact hlt) wx
          obtain ⟨x1, h1⟩ : ∃ x, x = (addK [s0, s1, s2, s3, s4, s5, s6, s7] V i)[i]'(by rw [hsl]; exact hlt) := ⟨_, rfl⟩
          obtain ⟨x2, h2⟩ : ∃ x, x = V[i]'(by rw [HVl.out]; exact hlt) := ⟨_, rfl⟩
          rw [← h1] at cc
          rw [← h2] at ix
          have hst : addK [s0, s1, s2, s3, s4, s5, s6, s7] V (i + 1) = (addK [s0, s1, s2, s3, s4, s5, s6, s7] V i).set i (x1 + x2) := by
            rw [h1, h2]
            show ((addK _ V i).set i _) = _
            simp only [List.getD_eq_getElem?_getD, List.getElem?_eq_getElem (by rw [HVl.out]; exact hlt : i < V.length), List.getElem?_eq_getElem (by rw [hsl]; exact hlt : i < (addK [s0, s1, s2, s3, s4, s5, s6, s7] V i).length), Option.getD_some]
          have HST := Lib.hid hst
          have HB := Lib.hid (And.intro hA3 (And.intro hA6 hB))
          have hlI : (i : Int) < 8 := by omega
          have hi0 : (0 : Int) ≤ (i : Int) := by omega
          clear hst h1 h2 hsl hA3 hA6 hB
          go_wp2
          refine ⟨⟨i + 1, by simp, by omega, by rw [HST.out]; exact HB.out.1.set i _, HB.out.2.1.only ((Only.refl (fun k => k = w.heap.size) wr).setCell _ _ (.inl rfl)) (by omega), HB.out.2.2.setCell (by simp) _⟩, by simp [intOf]; omega⟩
        · obtain rfl : i = 8 := by omega
          have hsl : (addK [s0, s1, s2, s3, s4, s5, s6, s7] V 8).length = 8 := by rw [addK_len]; rfl
          have HB := Lib.hid (And.intro hA3 (And.intro hA6 (And.intro hB hsl)))
          clear hA3 hA6 hB hsl
          go_upto_region 17 with (fail)
          go_wp2_with (first
            | (refine ld_arrU rfl 143 _ rfl w.heap.size rfl _ _ HB.out.1 _ _ Try.underlying143 (by rw [HB.out.2.2.2]; exact Try.infoA8) ?_)
            | (refine st_arrU rfl 143 _ _ rfl (w.heap.size + 1) _ rfl rfl _ _ HB.out.2.1 (by rw [HB.out.2.2.2]; exact Try.infoA8) (by rw [HB.out.2.2.2]; simp) ?_; intro w5 hA5 hO5))
          refine bodyPost_ret (v := .agg ((addK [s0, s1, s2, s3, s4, s5, s6, s7] V 8).map U).toArray) (results_cell_row (P := Try.prog) Try.results108 _ _ (w.heap.size + 1) _ _ _ _ rfl hA5 Try.underlying143 rfl (by rw [Try.infoA8]; simp [HB.out.2.2.2])) rfl (And.intro ?_ ?_)
          · rw [HV.out]; rfl
          · exact below_only HB.out.2.2.1 HB.out.2.2.1.size hO5 (by intro k hk e; omega)
end Go.Proofs.Ytegmimnhkohaoaa
/-
  The contract of sha.Sum. Condition: at most 2 to the 47th bytes, less two thousand.
-/
namespace Go.Kx
open Go.RowKit
/-- An array of bytes in a block of its own. -/
def ArrB (w : World) (r t : Nat) (xs : List UInt8) : Prop := w.heap[r]? = some (.cells (xs.map B8).toArray t (0, 0))
theorem ArrB.c {w : World} {r t : Nat} {xs : List UInt8} (h : ArrB w r t xs) (i : Nat) (hi : i < xs.length) : w.cell? ⟨r, i, none⟩ = some (B8 (xs[i]'hi)) := by
  unfold ArrB at h
  simp [World.cell?, h, hi]
theorem ArrB.fr {w : World} {r t : Nat} {xs : List UInt8} (h : ArrB w r t xs) (o : Nat) : w.frozen? ⟨r, o, none⟩ = false := by unfold ArrB at h; simp [World.frozen?, h]
theorem ArrB.lt {w : World} {r t : Nat} {xs : List UInt8} (h : ArrB w r t xs) : r < w.heap.size := (Array.getElem?_eq_some_iff.1 h).1
theorem ArrB.only {w w' : World} {q : Nat → Prop} {r t : Nat} {xs : List UInt8} (h : ArrB w r t xs) (ho : Only q w w') (hd : ¬ q r) : ArrB w' r t xs := (ho.block r h.lt hd).trans h
theorem ArrB.below {w w' : World} {r t : Nat} {xs : List UInt8} (h : ArrB w r t xs) (ho : Below w.heap.size w w') : ArrB w' r t xs := (ho.block r h.lt).trans h
theorem ArrB.new (w : World) (t : Nat) (xs : List UInt8) : ArrB (w.alloc (.cells (xs.map B8).toArray t)) w.heap.size t xs := heap_alloc_new w _
theorem ArrB.set {w : World} {r t : Nat} {xs : List UInt8} (h : ArrB w r t xs) (i : Nat) (x : UInt8) : ArrB (w.setCell ⟨r, i, none⟩ (B8 x)) r t (xs.set i x) := by
  unfold ArrB at *
  simp [World.setCell, Array.getElem?_modify, h, List.map_set]
theorem arrB_ones (xs : List UInt8) : ((xs.map B8).toArray).all (fun v => v.oneCell') = true := by
  rw [Array.all_eq_true_iff_forall_mem]
  intro v hv
  simp only [List.mem_toArray, List.mem_map] at hv
  obtain ⟨x, _, rfl⟩ := hv
  rfl
theorem only_setRow' (w : World) (r : Nat) (C : Array Value) : Only (· = r) w (w.setRow r C) :=
  ⟨rfl, rfl, rfl, by simp, fun k _ hk => by simp only [World.setRow, Array.getElem?_modify]; rw [if_neg (by omega)]⟩
theorem ArrB.setRow {w : World} {r t : Nat} {xs : List UInt8} (h : ArrB w r t xs) (ys : List UInt8) : ArrB (w.setRow r (ys.map B8).toArray) r t ys := by
  unfold ArrB at *
  simp [World.setRow, Array.getElem?_modify, h]
theorem ld_arrB {P : Program} {ops : Array Oper} {rest : List Oper} {op : Oper} {a : Act} {w : World} {Q : Exit → Act → World → Prop} (hgd : op.guard = none) (ty : TypeId) (x : Operand) (ho : op.op = .load ty x)
    (g : Nat) (hx : a.eval x = .pointer (some ⟨g, 0, none⟩)) (t : TypeId) (xs : List UInt8) (hg : ArrB w g t xs) (n e : Nat) (hu : P.underlying ty = some (.array n e)) (hi : (P.info? ty).map (·.size) = some xs.length)
    (h : wpList P ops Q rest (a.put op.dst (.agg (xs.map B8).toArray)) w) : wpList P ops Q (op :: rest) a w :=
  wpList_load_row hgd ty x ho g hx t _ (0, 0) (.array n e) hg hu rfl (by rw [hi]; simp) h
theorem st_arrB {P : Program} {ops : Array Oper} {rest : List Oper} {op : Oper} {a : Act} {w : World} {Q : Exit → Act → World → Prop} (hgd : op.guard = none) (ty : TypeId) (x y : Operand) (ho : op.op = .store ty x y)
    (g : Nat) (xs : List UInt8) (hx : a.eval x = .pointer (some ⟨g, 0, none⟩)) (hy : a.eval y = .agg (xs.map B8).toArray) (t : TypeId) (old : List UInt8) (hg : ArrB w g t old) (hi : (P.info? ty).map (·.size) = some xs.length) (hl : old.length = xs.length)
    (h : ∀ w', ArrB w' g t xs → Only (· = g) w w' → wpList P ops Q rest (a.put op.dst undef) w') : wpList P ops Q (op :: rest) a w :=
  wpList_store_row hgd ty x y ho g _ hx hy t _ hg (by rw [hi]; simp) (by simpa using hl) (arrB_ones xs) (h _ (hg.setRow xs) (only_setRow' w g _))
end Go.Kx
namespace Go.Proofs.Ytegmimnhkohaoaa
open Go.RowKit Go.Kx
set_option linter.unusedVariables false
set_option linter.unusedSimpArgs false
attribute [local go_sem ↓] U_add U_mul U_xor U_or U_and U_not U_guard1 U_guard2 U_store exec_stU
attribute [local go_sem] st1_U st1_i

/-- The eight numbers behind so many blocks. -/
def hashS (M : List UInt8) : Nat → List UInt32
  | 0 => rootsL 8 false
  | j + 1 => mixL (hashS M j) (sched (M.drop (64 * j))) (rootsL 64 true)
/-- A byte of the sum. -/
def low8 (x : UInt32) : UInt8 := UInt8.ofNat x.toNat
def outB (s : List UInt32) (i : Nat) : UInt8 := low8 (shr32 (s.getD (i / 4) 0) (24 - 8 * (i % 4)))
def outK (s : List UInt32) : Nat → List UInt8
  | 0 => List.replicate 32 0
  | i + 1 => (outK s i).set i (outB s i)
def sumL (b : List UInt8) : List UInt8 := outK (hashS (padL b) ((padL b).length / 64)) 32
theorem outK_len (s : List UInt32) (i : Nat) : (outK s i).length = 32 := by
  induction i with
  | zero => simp [outK]
  | succ i ih => simp only [outK, List.length_set, ih]
theorem sumL_len (b : List UInt8) : (sumL b).length = 32 := outK_len _ _
theorem mixL_len (s b K : List UInt32) : (mixL s b K).length = s.length := addK_len _ _ _
theorem rootsL_len {n : Nat} (h : n ≤ 64) (c : Bool) : (rootsL n c).length = n := by unfold rootsL; rw [List.length_map]; exact primesL_len h
theorem hashS_len (M : List UInt8) (j : Nat) : (hashS M j).length = 8 := by
  induction j with
  | zero => exact rootsL_len (by omega) false
  | succ j ih => rw [hashS, mixL_len, ih]
theorem RdU.only {w w' : World} {q : Nat → Prop} {g o : Nat} {ks : List UInt32} (h : RdU w (some ⟨g, o, none⟩) ks) (ho : Only q w w') (hd : ¬ q g) : RdU w' (some ⟨g, o, none⟩) ks := by
  intro i hi
  obtain ⟨g', o', h1, h2⟩ := h i hi
  cases h1
  refine ⟨g, o, rfl, ?_⟩
  have hlt := World.block_lt_of_cell? _ _ h2
  exact (World.cell?_of_block (w := w) (w' := w') (ho.block g hlt hd)).trans h2

theorem cvU8 (x : UInt32) (w : World) : (convert 142 5 (U x)).run Try.prog w = .ok (.int .u8 ((low8 x).toNat : Int)) w := by
  unfold low8
  have hk : Try.prog.intKind 5 = .u8 := by kernel_rfl
  have h2 := run_convert_int (P := Try.prog) (w := w) 142 5 .u32 (x.toNat : Int) (by rw [Try.underlying142]; rfl) (by rw [hk]; exact Try.underlying5)
  have h : IntKind.u8.wrap (x.toNat : Int) = ((UInt8.ofNat x.toNat).toNat : Int) := by
    rw [UInt8.toNat_ofNat']
    unfold IntKind.wrap
    simp [IntKind.bits, IntKind.signed]
  rw [hk, h] at h2
  exact h2
theorem Try.infoB32 : (Try.prog.info? 22).map (·.size) = some 32 := by kernel_rfl
def SumR (w : World) (X : List UInt8) (e : Ending) (w' : World) : Prop := e = .returned (.agg (X.map B8).toArray) ∧ Below w.heap.size w w'

/-- At the head of the loop over the blocks. -/
def SmRel (w w3 : World) (M : List UInt8) (N C gm : Nat) (v5 : Value) (wr : World) : Prop := ∃ (j cc : Nat) (q : Option Addr), v5 = .slice q (N - 64 * j) cc ∧ 64 * j ≤ N ∧ (64 * j < N → q = some ⟨gm, 64 * j, none⟩ ∧ cc = C - 64 * j) ∧ ArrU wr (w.heap.size + 1) 143 (hashS M j) ∧ Only (· = w.heap.size + 1) w3 wr
def SmMeas (v5 : Value) : Nat := match v5 with
  | .slice _ n _ => n
  | _ => 0
/-- At the head of the loop over the bytes. -/
def SmRel2 (w w3 : World) (s : List UInt32) (v23 : Value) (wr : World) : Prop := ∃ i : Nat, v23 = .int .i64 (i : Int) ∧ i ≤ 32 ∧ ArrB wr w3.heap.size 22 (outK s i) ∧ Below w3.heap.size w3 wr

set_option maxHeartbeats 8000000 in
set_option maxRecDepth 100000 in
theorem sum_c (S : Nat → Prop) (p : Option Addr) (n c : Nat) (b : List UInt8) (w : World) (hR : Rd w S p b) (hp : p = none → c = 0) (hl : b.length + 2000 ≤ 140737488355328) (hn : b.length = n) :
    Calls Try.prog 66 #[.slice p n c] w (SumR w (sumL b)) := by
  have HR := Lib.hid (And.intro hR (And.intro hp (And.intro hl hn)))
  clear hR hp hn hl
  obtain ⟨W0, hW0⟩ : ∃ W0, W0 = (w.alloc (.cells #[.int .u8 0, .int .u8 0, .int .u8 0, .int .u8 0, .int .u8 0, .int .u8 0, .int .u8 0, .int .u8 0, .int .u8 0, .int .u8 0, .int .u8 0, .int .u8 0, .int .u8 0, .int .u8 0, .int .u8 0, .int .u8 0, .int .u8 0, .int .u8 0, .int .u8 0, .int .u8 0, .int .u8 0, .int .u8 0, .int .u8 0, .int .u8 0, .int .u8 0, .int .u8 0, .int .u8 0, .int .u8 0, .int .u8 0, .int .u8 0, .int .u8 0, .int .u8 0] 22)).alloc (.cells #[.int .u32 0, .int .u32 0, .int .u32 0, .int .u32 0, .int .u32 0, .int .u32 0, .int .u32 0, .int .u32 0] 143) := ⟨_, rfl⟩
  have hA2 : ArrB W0 w.heap.size 22 (List.replicate 32 0) := by
    have r1 : ArrB _ _ 22 (List.replicate 32 0) := ArrB.new w 22 (List.replicate 32 0)
    rw [hW0]
    exact r1.below ((Below.refl _ _).alloc (Nat.le_refl _) _)
  have hA3 : ArrU W0 (w.heap.size + 1) 143 (List.replicate 8 0) := by
    have r2 : ArrU _ _ 143 (List.replicate 8 0) := ArrU.new (w.alloc (.cells #[.int .u8 0, .int .u8 0, .int .u8 0, .int .u8 0, .int .u8 0, .int .u8 0, .int .u8 0, .int .u8 0, .int .u8 0, .int .u8 0, .int .u8 0, .int .u8 0, .int .u8 0, .int .u8 0, .int .u8 0, .int .u8 0, .int .u8 0, .int .u8 0, .int .u8 0, .int .u8 0, .int .u8 0, .int .u8 0, .int .u8 0, .int .u8 0, .int .u8 0, .int .u8 0, .int .u8 0, .int .u8 0, .int .u8 0, .int .u8 0, .int .u8 0, .int .u8 0] 22)) 143 (List.replicate 8 0)
    simp only [World.size_alloc] at r2
    rw [hW0]
    exact r2
  have hB0 : Below w.heap.size w W0 := by rw [hW0]; exact ((Below.refl _ _).alloc (Nat.le_refl _) _).alloc (by simp) _
  have H0 := Lib.hid (And.intro hA2 (And.intro hA3 hB0))
  have HE := Lib.hid hW0.symm
  have hlt3 := hA3.lt
  clear hW0 hA2 hA3 hB0
  obtain ⟨H8, hH8⟩ : ∃ x, x = rootsL 8 false := ⟨_, rfl⟩
  have hH8l : H8.length = 8 := by rw [hH8]; exact rootsL_len (by omega) false
  obtain ⟨h0, h1, h2, h3, h4, h5, h6, h7, he8⟩ := list8 H8 hH8l
  have R8 : ∀ wx, Calls Try.prog 106 #[.int .i64 8, .bool false] wx (RoR wx 8 false) := fun wx => roots_c 8 false wx (by omega)
  have HR8 := Lib.hid (And.intro R8 (And.intro hH8 (And.intro hH8l he8)))
  clear R8 hH8 hH8l he8
  go_enter Try.func66, Try.ntmps66
  go_upto_region 2 with (fail)
  rw [HE.out]
  go_region_held3 (fun w' => True) (trivial) (first
    | (go_at_call 106; refine (HR8.out.1 _).mono ?_; rintro e w1 ⟨g8, c8, rfl, k1, k2, k3, k4⟩; rw [← HR8.out.2.1, HR8.out.2.2.2] at k1; have HK4 := Lib.hid (And.intro k1 (undrew k4)); clear k1 k4)
    | (refine step_copy_splice rfl (.tmp 8) (.tmp 9) 144 144 rfl 142 Try.underlying144 (by kernel_rfl) _ _ _ _ _ _ rfl rfl (w.heap.size + 1) 0 (List.replicate 8 (.int .u32 0)) 143 (H0.out.2.1.below HK4.out.2) [U h0, U h1, U h2, U h3, U h4, U h5, U h6, U h7] rfl (fun _ => ⟨rfl, _, rfl, HK4.out.1.1.cells (g := g8) rfl⟩) (by simp) (by simp [U_one]) (w.heap.size + 1) W0 (HK4.out.2.mono (Nat.le_of_lt hlt3)) (Nat.le_refl _) ?_; intro w4 hg4 hb4))
  have hA4 : ArrU w4 (w.heap.size + 1) 143 H8 := by rw [HR8.out.2.2.2]; exact hg4.out
  have hR4 : ArrB w4 w.heap.size 22 (List.replicate 32 0) := H0.out.1.only (Only.of_belowN hb4) (by omega)
  have hB4 : Below w.heap.size w w4 := H0.out.2.2.trans (hb4.mono (by omega))
  have H4 := Lib.hid (And.intro hA4 (And.intro hR4 hB4))
  clear hA4 hR4 hB4 hg4 hb4 HK4
  have RK := Lib.hid (fun wx => roots_c 64 true wx (by omega))
  obtain ⟨K, hK⟩ : ∃ x, x = rootsL 64 true := ⟨_, rfl⟩
  have HK := Lib.hid (And.intro hK (show K.length = 64 by rw [hK]; exact rootsL_len (by omega) true))
  clear hK
  have hb4w := H4.out.2.2.size
  go_wp2_with (first
    | (go_at_call 106; refine (RK.out w4).mono ?_; rintro e w2 ⟨gk, ck, rfl, k1, k2, k3, k4⟩; rw [← HK.out.1] at k1; have HKR := Lib.hid (And.intro k1 k4); clear k1 k4)
    | (go_at_call 107; refine (padded_c S p n c b w2 ((HR.out.1.below H4.out.2.2).below (HKR.out.2)) HR.out.2.1 HR.out.2.2.1 HR.out.2.2.2).mono ?_; rintro e w3 ⟨gm, N, C, rfl, m1, m2, m3, m4, m5, m6, m7⟩; have HM := Lib.hid (And.intro m1 (And.intro m2 m7)); clear m1 m2 m7))
  obtain ⟨M, hM⟩ : ∃ x, x = padL b := ⟨_, rfl⟩
  have hN64 : N % 64 = 0 := by rw [← HM.out.1]; exact (padL_len b).1
  have hCm : C ≤ 9223372036854775807 := by unfold maxLen at m6; exact m6
  have hB2 : Below w.heap.size w w2 := H4.out.2.2.trans (HKR.out.2.mono hb4w)
  have hB3 : Below w.heap.size w w3 := hB2.trans (HM.out.2.2.mono hB2.size)
  have hA3 : ArrU w3 (w.heap.size + 1) 143 (hashS M 0) := by
    have h := (H4.out.1.below HKR.out.2).below HM.out.2.2
    rw [show hashS M 0 = H8 by rw [HR8.out.2.1]; rfl]
    exact h
  have hR3 : ArrB w3 w.heap.size 22 (List.replicate 32 0) := (H4.out.2.1.below HKR.out.2).below HM.out.2.2
  have hM3 : Rd w3 (fun k => k = gm) (some ⟨gm, 0, none⟩) M ∧ M.length = N := by rw [hM]; exact ⟨HM.out.2.1.rd, HM.out.1⟩
  have hK3 : RdU w3 (some ⟨gk, 0, none⟩) K := by
    have h : RdU w2 (some ⟨gk, 0, none⟩) K := by
      intro i hi
      refine ⟨gk, 0, rfl, ?_⟩
      have hc := HKR.out.1.1.cells (g := gk) rfl i (U K[i]) (by simp [hi])
      have e : (⟨gk, 0, none⟩ : Addr).add i = ⟨gk, 0 + i, none⟩ := by unfold Addr.add; split <;> simp_all
      rwa [e] at hc
    exact h.below HM.out.2.2
  have hs34 : w.heap.size + 1 < w4.heap.size := H4.out.1.lt
  have hs42 := HKR.out.2.size
  have hs23 := HM.out.2.2.size
  have H3 := Lib.hid (And.intro hA3 (And.intro hR3 (And.intro hM3 (And.intro hK3 hB3))))
  have HMM := Lib.hid hM
  clear hA3 hR3 hM3 hK3 hB3 hB2 hM
  go_loopw [5] (fun v5 wr => SmRel w w3 M N C gm v5 wr) (fun v5 _ => SmMeas v5)
  case atStart => exact ⟨0, C, _, rfl, by omega, fun _ => ⟨rfl, rfl⟩, H3.out.1, Only.refl _ _⟩
  case round =>
    obtain ⟨j, cc, q, rfl, hj, hq, hA, hO⟩ := hrel
    have HO := Lib.hid hO
    have hszr := hO.size
    by_cases hlt : 64 * j < N
    · obtain ⟨rfl, rfl⟩ := hq hlt
      have hsl : (hashS M j).length = 8 := hashS_len M j
      have hst : hashS M (j + 1) = mixL (hashS M j) (sched (M.drop (64 * j))) K := by rw [HK.out.1]; rfl
      obtain ⟨n', hn'⟩ : ∃ n', n' = N - 64 * j := ⟨_, rfl⟩
      obtain ⟨c', hc'⟩ : ∃ c', c' = C - 64 * j := ⟨_, rfl⟩
      obtain ⟨o', ho'⟩ : ∃ o', o' = 64 * j := ⟨_, rfl⟩
      rw [← hn', ← hc', ← ho']
      have hRd : Rd wr (fun k => k = gm) (some ⟨gm, 0 + o', none⟩) (M.drop o') := (H3.out.2.2.1.1.only hO (fun k hk e => by omega)).drop o'
      rw [Nat.zero_add] at hRd
      rw [← ho'] at hst
      have hRl : (M.drop o').length = n' := by rw [List.length_drop, H3.out.2.2.1.2]; omega
      have hKr : RdU wr (some ⟨gk, 0, none⟩) K := H3.out.2.2.2.1.only hO (by omega)
      have hn64 : 64 ≤ n' := by omega
      have hnc : n' ≤ c' := by omega
      have hc63 : c' ≤ 9223372036854775807 := by omega
      have HX := Lib.hid (And.intro hRd (And.intro hRl (And.intro hKr (And.intro hA (And.intro hst hsl)))))
      have HJ := Lib.hid (And.intro hn' (And.intro hc' ho'))
      clear hRd hRl hKr hA hst hn' hc' ho' hO hsl hq
      have hn0 : 0 < n' := by omega
      by_cases hcc : c' = 64
      · subst hcc
        have hn64' : n' = 64 := by omega
        have HNN := Lib.hid hn64'
        clear hn64'
        go_wp2_with (first
          | (refine ld_arrU rfl 143 (.tmp 3) rfl (w.heap.size + 1) rfl _ _ HX.out.2.2.2.1 _ _ Try.underlying143 (by rw [HX.out.2.2.2.2.2]; exact Try.infoA8) ?_)
          | (go_at_call 108; refine (mix_c _ _ n' 64 _ _ _ _ K _ wr HX.out.1 HX.out.2.1 hn64 hnc HX.out.2.2.2.2.2 HX.out.2.2.1 HK.out.2 rfl).mono ?_; rintro e w5 ⟨rfl, hB5⟩; rw [← HX.out.2.2.2.2.1]; have HB5 := Lib.hid hB5; clear hB5)
          | (refine st_arrU rfl 143 (.tmp 3) _ rfl (w.heap.size + 1) _ rfl rfl _ _ (HX.out.2.2.2.1.below HB5.out) (by rw [hashS_len]; exact Try.infoA8) (by rw [hashS_len, hashS_len]) ?_; intro w6 hA6 hO6))
        have hO36 : Only (fun k => k = w.heap.size + 1) w3 w6 := (HO.out.then (Only.of_below HB5.out)).then hO6
        refine ⟨⟨j + 1, 0, some ⟨gm, o', none⟩, by have := HJ.out; have := HNN.out; rw [show N - 64 * (j + 1) = 0 by omega], by have := HJ.out; have := HNN.out; omega, fun h => by have := HJ.out; have := HNN.out; omega, hA6, hO36⟩, ?_⟩
        show 0 < n'
        omega
      · go_wp2_with (first
          | (refine ld_arrU rfl 143 (.tmp 3) rfl (w.heap.size + 1) rfl _ _ HX.out.2.2.2.1 _ _ Try.underlying143 (by rw [HX.out.2.2.2.2.2]; exact Try.infoA8) ?_)
          | (go_at_call 108; refine (mix_c _ _ n' c' _ _ _ _ K _ wr HX.out.1 HX.out.2.1 hn64 hnc HX.out.2.2.2.2.2 HX.out.2.2.1 HK.out.2 rfl).mono ?_; rintro e w5 ⟨rfl, hB5⟩; rw [← HX.out.2.2.2.2.1]; have HB5 := Lib.hid hB5; clear hB5)
          | (refine st_arrU rfl 143 (.tmp 3) _ rfl (w.heap.size + 1) _ rfl rfl _ _ (HX.out.2.2.2.1.below HB5.out) (by rw [hashS_len]; exact Try.infoA8) (by rw [hashS_len, hashS_len]) ?_; intro w6 hA6 hO6))
        have hO36 : Only (fun k => k = w.heap.size + 1) w3 w6 := (HO.out.then (Only.of_below HB5.out)).then hO6
        refine ⟨⟨j + 1, c' - 64, some ⟨gm, o' + 64, none⟩, by have := HJ.out; rw [show N - 64 * (j + 1) = n' - 64 by omega], by have := HJ.out; omega, fun h => ⟨by have := HJ.out; rw [show 64 * (j + 1) = o' + 64 by omega], by have := HJ.out; omega⟩, hA6, hO36⟩, ?_⟩
        show n' - 64 < n'
        omega
    · have hjn : j = N / 64 := by omega
      have h0 : N - 64 * j = 0 := by omega
      rw [h0]
      obtain ⟨st, hst⟩ : ∃ x, x = hashS M j := ⟨_, rfl⟩
      have hsl : st.length = 8 := by rw [hst]; exact hashS_len M j
      rw [← hst] at hA
      have HS := Lib.hid (And.intro hst (And.intro hsl (And.intro hA hjn)))
      have hs8 := hA.lt
      clear hq h0 hlt hst hsl hA hO hjn
      obtain ⟨wo, rfl⟩ : ∃ wo : World, wo = wr := ⟨_, rfl⟩
      have h01 : SmRel2 w wo st (.int .i64 0) (wo.alloc (.cells ((List.replicate 32 (0 : UInt8)).map B8).toArray 22)) := ⟨0, rfl, by omega, ArrB.new _ _ _, (Below.refl _ _).alloc (Nat.le_refl _) _⟩
      have H01 := Lib.hid h01
      clear h01
      have cv := cvU8
      go_wp2
      go_loopw [23] (fun v23 wx => SmRel2 w wo st v23 wx) (fun v23 _ => (32 - intOf v23).toNat)
      case atStart => exact H01.out
      case round =>
        obtain ⟨i, rfl, hi, hA, hB⟩ := hrel
        have HB := Lib.hid (And.intro hA hB)
        have hszx := hB.size
        by_cases hlt : i < 32
        · have hol := outK_len st i
          have c1 := (HS.out.2.2.1.below hB).c (i / 4) (by rw [HS.out.2.1]; omega)
          have c2 := hA.c i (by rw [hol]; exact hlt)
          have f2 := hA.fr i
          obtain ⟨X, hX⟩ : ∃ x, x = st[i / 4]'(by rw [HS.out.2.1]; omega) := ⟨_, rfl⟩
          rw [← hX] at c1
          obtain ⟨Y, hY⟩ : ∃ x, x = (outK st i)[i]'(by rw [hol]; exact hlt) := ⟨_, rfl⟩
          rw [← hY] at c2
          have hst : outK st (i + 1) = (outK st i).set i (low8 (shr32 X (24 - 8 * (i % 4)))) := by
            show ((outK st i).set i (outB st i)) = _
            unfold outB
            rw [hX]
            simp only [List.getD_eq_getElem?_getD, List.getElem?_eq_getElem (by rw [HS.out.2.1]; omega : i / 4 < st.length), Option.getD_some]
          have HST := Lib.hid hst
          have hsh := fun (w : World) => U_shr (P := Try.prog) (w := w) (t := 142) X .i64 (24 - 8 * ((i : Int) % 4)) (by omega)
          rw [show (24 - 8 * ((i : Int) % 4)).toNat = 24 - 8 * (i % 4) by omega] at hsh
          have hti : ((i : Int) / 4).toNat = i / 4 := by omega
          have hlI : (i : Int) < 32 := by omega
          have hi0 : (0 : Int) ≤ (i : Int) := by omega
          clear hst hX hY hol hA hB
          go_wp2
          refine ⟨⟨i + 1, by simp, by omega, by rw [HST.out]; exact HB.out.1.set i _, HB.out.2.setCell (by simp) _⟩, by simp [intOf]; omega⟩
        · obtain rfl : i = 32 := by omega
          have hol := outK_len st 32
          have hO2 : ArrB wo w.heap.size 22 (List.replicate 32 0) := H3.out.2.1.only HO.out (by omega)
          have HO2 := Lib.hid (And.intro (hO2.below hB) hol)
          have hsr : w.heap.size < wo.heap.size := hO2.lt
          clear hA hB hol hO2
          go_upto_region 14 with (fail)
          go_wp2_with (first
            | (refine ld_arrB rfl 22 (.tmp 6) rfl wo.heap.size rfl _ _ HB.out.1 _ _ Try.underlying22 (by rw [HO2.out.2]; exact Try.infoB32) ?_)
            | (refine st_arrB rfl 22 (.tmp 2) _ rfl w.heap.size _ rfl rfl _ _ HO2.out.1 (by rw [HO2.out.2]; exact Try.infoB32) (by rw [HO2.out.2]; simp) ?_; intro w7 hA7 hO7))
          refine bodyPost_ret (v := .agg ((outK st 32).map B8).toArray) (results_cell_row (P := Try.prog) Try.results66 _ _ w.heap.size _ _ _ _ rfl hA7 Try.underlying22 rfl (by rw [Try.infoB32]; simp [HO2.out.2])) rfl (And.intro ?_ ?_)
          · rw [HS.out.1, HS.out.2.2.2, HMM.out]
            unfold sumL
            rw [HM.out.1]
          · have h1 : Below w.heap.size w wo := below_only H3.out.2.2.2.2 H3.out.2.2.2.2.size HO.out (by intro k hk e; omega)
            have h2 := h1.trans (HB.out.2.mono h1.size)
            exact below_only h2 h2.size hO7 (by intro k hk e; omega)
end Go.Proofs.Ytegmimnhkohaoaa
/-
  The contracts of relayref01's turn, bits and consts; what bits tells, as one formula. Condition of turn: a count from 1 to 31.
-/
namespace Go.Kx
open Go.RowKit
theorem wpList_build_eq {P : Program} {ops : Array Oper} {rest : List Oper} {o : Oper} {a : Act} {w : World} {Q : Exit → Act → World → Prop} (hg : o.guard = none) (t : TypeId) (parts : Array (Nat × Operand)) (ho : o.op = .build t parts)
    {C : Array Value} {l : List (Nat × Value)} (hl : (parts.map fun (i, x) => (i, a.eval x)).toList = l) (hf : P.built t l = some C)
    (h : wpList P ops Q rest (a.put o.dst (.agg C)) w) : wpList P ops Q (o :: rest) a w := by
  subst hl
  exact wpList_build hg t parts ho (by rw [hf]; rfl) (by rw [hf]; exact h)
end Go.Kx
namespace Go.Proofs.Ytegmimnhkohaoaa
open Go.RowKit Go.Kx
set_option linter.unusedVariables false
set_option linter.unusedSimpArgs false
attribute [local go_sem ↓] U_add U_mul U_xor U_or U_and U_not U_guard1 U_guard2 U_eql U_neq U_store exec_stU
attribute [local go_sem] st1_U st1_i

def Drawn (w : World) (v : Value) (e : Ending) (w' : World) : Prop := e = .returned v ∧ ∃ m, w' = w.drewN m

theorem rotr_comm (x : UInt32) (n : Nat) : shr32 x n ||| shl32 x (32 - n) = rotr x n := by unfold rotr; exact UInt32.or_comm _ _

theorem turn_c (x : UInt32) (k : Int) (w : World) (h : 1 ≤ k ∧ k ≤ 31) : Calls Try.prog 110 #[U x, .int .i64 k] w fun e w' => e = .returned (U (rotr x k.toNat)) ∧ ∃ m, w' = w.drewN m := by
  obtain ⟨n, rfl⟩ : ∃ n : Nat, k = (n : Int) := ⟨k.toNat, by omega⟩
  have h1 : (1 : Int) ≤ (n : Int) := h.1
  have h2 : (n : Int) ≤ 31 := h.2
  have h3 : (0 : Int) ≤ (n : Int) := by omega
  have h4 : (0 : Int) ≤ 32 - (n : Int) := by omega
  have e1 : IntKind.i64.wrap (32 - (n : Int)) = 32 - (n : Int) := IntWalk.i64_in _ ⟨by omega, by omega⟩
  have e2 : (32 - (n : Int)).toNat = 32 - n := by omega
  have s1 := fun (w : World) => U_shr (P := Try.prog) (w := w) (t := 142) x .i64 (n : Int) h3
  have s2 := fun (w : World) => U_shl (P := Try.prog) (w := w) (t := 142) x .i64 (32 - (n : Int)) h4
  rw [e2] at s2
  rw [Int.toNat_natCast] at s1
  go_enter Try.func110, Try.ntmps110
  go_upto_region 1 with (fail)
  go_quiet (fail)
  go_wp2
  go_ret
  refine ⟨?_, _, rfl⟩
  rw [Int.toNat_natCast, ← rotr_comm]
  rfl

/-! ### bits -/
def bitR (x y z : UInt32) (most : Bool) : UInt32 := if most then (x + y + z) / 2 else if x = 1 then y else z
def bitsK (a b c : UInt32) (most : Bool) : Nat → UInt32
  | 0 => 0
  | i + 1 => bitsK a b c most i ||| shl32 (bitR (shr32 a i &&& 1) (shr32 b i &&& 1) (shr32 c i &&& 1) most) i

theorem one_bit (x : UInt32) (i : Nat) : shr32 x i &&& 1 = if x.toBitVec.getLsbD i then 1 else 0 := by
  apply UInt32.toBitVec_inj.1
  have h : (shr32 x i).toBitVec = x.toBitVec >>> i := by
    unfold shr32
    apply BitVec.eq_of_toNat_eq
    rw [BitVec.toNat_ushiftRight]
    show (UInt32.ofNat (x.toNat / 2 ^ i)).toNat = _
    rw [UInt32.toNat_ofNat', Nat.mod_eq_of_lt (Nat.lt_of_le_of_lt (Nat.div_le_self _ _) x.toNat_lt), Nat.shiftRight_eq_div_pow]
    rfl
  rw [UInt32.toBitVec_and, h]
  apply BitVec.eq_of_getLsbD_eq
  intro j hj
  rw [BitVec.getLsbD_and, BitVec.getLsbD_ushiftRight]
  by_cases hb : x.toBitVec.getLsbD i
  · rw [if_pos hb]
    cases j with
    | zero => simp [hb]
    | succ j => simp
  · rw [if_neg hb]
    cases j with
    | zero => simp [hb]
    | succ j => simp
theorem bitR_eq (p q r : Bool) (most : Bool) : bitR (if p then 1 else 0) (if q then 1 else 0) (if r then 1 else 0) most = if (if most then (p && q || p && r || q && r) else (p && q || !p && r)) then 1 else 0 := by
  cases p <;> cases q <;> cases r <;> cases most <;> decide
theorem shl_bit (p : Bool) (i j : Nat) (hi : i < 32) (hj : j < 32) : (shl32 (if p then 1 else 0) i).toBitVec.getLsbD j = (p && decide (j = i)) := by
  have h : (shl32 (if p then 1 else 0) i).toBitVec = (if p then 1#32 else 0#32) <<< i := by
    unfold shl32
    apply BitVec.eq_of_toNat_eq
    rw [BitVec.toNat_shiftLeft, Nat.shiftLeft_eq]
    show (UInt32.ofNat _).toNat = _
    rw [UInt32.toNat_ofNat']
    cases p <;> rfl
  rw [h, BitVec.getLsbD_shiftLeft]
  cases p
  · simp
  · simp only [if_true, BitVec.getLsbD_one, Bool.true_and]
    rw [Bool.eq_iff_iff]
    simp
    omega
theorem bitsK_bit (a b c : UInt32) (most : Bool) (i : Nat) (hi : i ≤ 32) (j : Nat) (hj : j < 32) : (bitsK a b c most i).toBitVec.getLsbD j = (decide (j < i) &&
    (if most then (a.toBitVec.getLsbD j && b.toBitVec.getLsbD j || a.toBitVec.getLsbD j && c.toBitVec.getLsbD j || b.toBitVec.getLsbD j && c.toBitVec.getLsbD j) else (a.toBitVec.getLsbD j && b.toBitVec.getLsbD j || !a.toBitVec.getLsbD j && c.toBitVec.getLsbD j))) := by
  induction i with
  | zero => simp [bitsK]
  | succ i ih =>
    rw [bitsK, UInt32.toBitVec_or, BitVec.getLsbD_or, ih (by omega), one_bit, one_bit, one_bit, bitR_eq, shl_bit _ i j (by omega) hj]
    by_cases hji : j = i
    · subst hji; simp
    · simp only [hji, decide_false, Bool.and_false, Bool.or_false]
      rw [show decide (j < i + 1) = decide (j < i) from decide_eq_decide.2 (by omega)]
theorem bits_ch (a b c : UInt32) : bitsK a b c false 32 = (a &&& b ||| ~~~a &&& c) := by
  apply UInt32.toBitVec_inj.1
  apply BitVec.eq_of_getLsbD_eq
  intro j hj
  rw [bitsK_bit _ _ _ _ _ (by omega) j hj]
  simp [hj]
theorem bits_maj (a b c : UInt32) : bitsK a b c true 32 = (a &&& b ||| a &&& c ||| b &&& c) := by
  apply UInt32.toBitVec_inj.1
  apply BitVec.eq_of_getLsbD_eq
  intro j hj
  rw [bitsK_bit _ _ _ _ _ (by omega) j hj]
  simp [hj]

def BtRel (w : World) (a b c : UInt32) (most : Bool) (v9 v10 : Value) (wr : World) : Prop := ∃ (i m : Nat), v10 = .int .i64 (i : Int) ∧ i ≤ 32 ∧ v9 = U (bitsK a b c most i) ∧ wr = w.drewN m
theorem bits_c (a b c : UInt32) (most : Bool) (w : World) : Calls Try.prog 111 #[U a, U b, U c, .bool most] w fun e w' => e = .returned (U (bitsK a b c most 32)) ∧ ∃ m, w' = w.drewN m := by
  have k1 : Value.int .u32 1 = U 1 := rfl
  have k2 : Value.int .u32 2 = U 2 := rfl
  have hq := fun (x : UInt32) (w : World) => U_quo (P := Try.prog) (w := w) (t := 142) x 2 (by decide)
  go_enter Try.func111, Try.ntmps111
  go_wp2
  go_loopw [9, 10] (fun v9 v10 wr => BtRel w a b c most v9 v10 wr) (fun _ v10 _ => (32 - intOf v10).toNat)
  case atStart => exact ⟨0, 0, rfl, by omega, rfl, rfl⟩
  case round =>
    obtain ⟨i, m, rfl, hi, rfl, rfl⟩ := hrel
    by_cases hlt : i < 32
    · have hi0 : (0 : Int) ≤ (i : Int) := by omega
      have hlI : (i : Int) < 32 := by omega
      have s1 := fun (w : World) => U_shr (P := Try.prog) (w := w) (t := 142) a .i64 (i : Int) hi0
      have s2 := fun (w : World) => U_shr (P := Try.prog) (w := w) (t := 142) b .i64 (i : Int) hi0
      have s3 := fun (w : World) => U_shr (P := Try.prog) (w := w) (t := 142) c .i64 (i : Int) hi0
      have s4 := fun (r : UInt32) (w : World) => U_shl (P := Try.prog) (w := w) (t := 142) r .i64 (i : Int) hi0
      simp only [Int.toNat_natCast] at s1 s2 s3 s4
      obtain ⟨X, hX⟩ : ∃ x, x = shr32 a i &&& 1 := ⟨_, rfl⟩
      obtain ⟨Y, hY⟩ : ∃ x, x = shr32 b i &&& 1 := ⟨_, rfl⟩
      obtain ⟨Z, hZ⟩ : ∃ x, x = shr32 c i &&& 1 := ⟨_, rfl⟩
      obtain ⟨O, hO⟩ : ∃ x, x = bitsK a b c most i := ⟨_, rfl⟩
      have hst : bitsK a b c most (i + 1) = O ||| shl32 (bitR X Y Z most) i := by rw [hX, hY, hZ, hO]; rfl
      rw [← hO]
      have HST := Lib.hid hst
      have e1 := hX.symm
      have e2 := hY.symm
      have e3 := hZ.symm
      clear hst hX hY hZ hO
      go_upto_region 5 with (fail)
      go_quiet (fail)
      clear e1 e2 e3 s1 s2 s3
      cases most
      · by_cases hx : X = 1
        · have hr : bitR X Y Z false = Y := by unfold bitR; simp [hx]
          rw [hr] at HST
          clear hr
          go_wp2
          refine ⟨⟨i + 1, _, by simp, by omega, by rw [HST.out], rfl⟩, by simp [intOf]; omega⟩
        · have hr : bitR X Y Z false = Z := by unfold bitR; simp [hx]
          rw [hr] at HST
          clear hr
          go_wp2
          refine ⟨⟨i + 1, _, by simp, by omega, by rw [HST.out], rfl⟩, by simp [intOf]; omega⟩
      · have hr : bitR X Y Z true = (X + Y + Z) / 2 := by unfold bitR; simp
        rw [hr] at HST
        clear hr
        go_wp2
        refine ⟨⟨i + 1, _, by simp, by omega, by rw [HST.out], rfl⟩, by simp [intOf]; omega⟩
    · obtain rfl : i = 32 := by omega
      go_wp2
      go_ret
      exact ⟨rfl, _, rfl⟩

def refK : List UInt32 := [0x428a2f98, 0x71374491, 0xb5c0fbcf, 0xe9b5dba5, 0x3956c25b, 0x59f111f1, 0x923f82a4, 0xab1c5ed5,
  0xd807aa98, 0x12835b01, 0x243185be, 0x550c7dc3, 0x72be5d74, 0x80deb1fe, 0x9bdc06a7, 0xc19bf174,
  0xe49b69c1, 0xefbe4786, 0x0fc19dc6, 0x240ca1cc, 0x2de92c6f, 0x4a7484aa, 0x5cb0a9dc, 0x76f988da,
  0x983e5152, 0xa831c66d, 0xb00327c8, 0xbf597fc7, 0xc6e00bf3, 0xd5a79147, 0x06ca6351, 0x14292967,
  0x27b70a85, 0x2e1b2138, 0x4d2c6dfc, 0x53380d13, 0x650a7354, 0x766a0abb, 0x81c2c92e, 0x92722c85,
  0xa2bfe8a1, 0xa81a664b, 0xc24b8b70, 0xc76c51a3, 0xd192e819, 0xd6990624, 0xf40e3585, 0x106aa070,
  0x19a4c116, 0x1e376c08, 0x2748774c, 0x34b0bcb5, 0x391c0cb3, 0x4ed8aa4a, 0x5b9cca4f, 0x682e6ff3,
  0x748f82ee, 0x78a5636f, 0x84c87814, 0x8cc70208, 0x90befffa, 0xa4506ceb, 0xbef9a3f7, 0xc67178f2]
theorem refK_eq : refK = rootsL 64 true := by decide +kernel
def refH : List UInt32 := [0x6a09e667, 0xbb67ae85, 0x3c6ef372, 0xa54ff53a, 0x510e527f, 0x9b05688c, 0x1f83d9ab, 0x5be0cd19]
theorem refH_eq : refH = rootsL 8 false := by decide +kernel
set_option maxHeartbeats 4000000 in
set_option maxRecDepth 100000 in
theorem consts_c (w : World) : Calls Try.prog 109 #[] w fun e w' => e = .returned (.agg (refK.map U).toArray) ∧ Below w.heap.size w w' := by
  have hA : ∀ W, W = w.alloc (.cells #[.int .u32 0, .int .u32 0, .int .u32 0, .int .u32 0, .int .u32 0, .int .u32 0, .int .u32 0, .int .u32 0, .int .u32 0, .int .u32 0, .int .u32 0, .int .u32 0, .int .u32 0, .int .u32 0, .int .u32 0, .int .u32 0, .int .u32 0, .int .u32 0, .int .u32 0, .int .u32 0, .int .u32 0, .int .u32 0, .int .u32 0, .int .u32 0, .int .u32 0, .int .u32 0, .int .u32 0, .int .u32 0, .int .u32 0, .int .u32 0, .int .u32 0, .int .u32 0, .int .u32 0, .int .u32 0, .int .u32 0, .int .u32 0, .int .u32 0, .int .u32 0, .int .u32 0, .int .u32 0, .int .u32 0, .int .u32 0, .int .u32 0, .int .u32 0, .int .u32 0, .int .u32 0, .int .u32 0, .int .u32 0, .int .u32 0, .int .u32 0, .int .u32 0, .int .u32 0, .int .u32 0, .int .u32 0, .int .u32 0, .int .u32 0, .int .u32 0, .int .u32 0, .int .u32 0, .int .u32 0, .int .u32 0, .int .u32 0, .int .u32 0, .int .u32 0] 147) → ArrU W w.heap.size 147 (List.replicate 64 0) ∧ Below w.heap.size w W := by
    rintro W rfl
    exact ⟨(ArrU.new w 147 (List.replicate 64 0) : ArrU _ _ _ _), (Below.refl _ _).alloc (Nat.le_refl _) _⟩
  have HA := Lib.hid hA
  clear hA
  go_enter Try.func109, Try.ntmps109
  go_wp2_with (first
    | (refine wpList_build_eq rfl 147 _ rfl (C := (refK.map U).toArray) rfl (by kernel_rfl) ?_)
    | (refine st_arrU rfl 147 (.tmp 0) (.tmp 1) rfl w.heap.size refK rfl rfl _ _ (HA.out _ rfl).1 Try.infoA64 rfl ?_; intro w5 hA5 hO5))
  refine bodyPost_ret (v := .agg (refK.map U).toArray) (results_cell_row (P := Try.prog) Try.results109 _ _ w.heap.size _ _ _ _ rfl hA5 Try.underlying147 rfl (by rw [Try.infoA64]; rfl)) rfl (And.intro rfl ?_)
  exact below_only (HA.out _ rfl).2 (HA.out _ rfl).2.size hO5 (by intro k hk e; omega)
end Go.Proofs.Ytegmimnhkohaoaa
