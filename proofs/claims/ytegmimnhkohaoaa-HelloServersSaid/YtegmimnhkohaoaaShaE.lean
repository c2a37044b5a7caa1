/-
  The contract of sha.mix. Condition: at least 64 bytes, 64 constants.
-/
import Derived.Test.YtegmimnhkohaoaaShaD
import Derived.Laws.CopyOwn
namespace Go.Proofs.Ytegmimnhkohaoaa
open Go.RowKit Go.Kx
set_option linter.unusedVariables false
set_option linter.unusedSimpArgs false
attribute [local go_sem ↓] U_add U_mul U_xor U_or U_and U_not U_shl U_shr U_guard1 U_guard2 U_store exec_stU
attribute [local go_sem] st1_U st1_i

theorem sched_len (b : List UInt8) : (sched b).length = 64 := by unfold sched; rw [schedK_len]
/-- One round. -/
def rnd (v : List UInt32) (k w : UInt32) : List UInt32 :=
  match v with
  | [a, b, c, d, e, f, g, h] =>
    let t := h + (rotr e 6 ^^^ rotr e 11 ^^^ rotr e 25) + (e &&& f ||| ~~~e &&& g) + k + w
    let u := (rotr a 2 ^^^ rotr a 13 ^^^ rotr a 22) + (a &&& b ||| a &&& c ||| b &&& c)
    [t + u, a, b, c, d + t, e, f, g]
  | _ => List.replicate 8 0
theorem rnd_len (v : List UInt32) (k w : UInt32) : (rnd v k w).length = 8 := by
  unfold rnd
  split <;> simp
def rnds (W K s : List UInt32) : Nat → List UInt32
  | 0 => s
  | i + 1 => rnd (rnds W K s i) (K.getD i 0) (W.getD i 0)
theorem rnds_len (W K s : List UInt32) (hs : s.length = 8) (i : Nat) : (rnds W K s i).length = 8 := by
  cases i with
  | zero => exact hs
  | succ i => exact rnd_len _ _ _
/-- The first so many are added. -/
def addK (s v : List UInt32) : Nat → List UInt32
  | 0 => s
  | i + 1 => (addK s v i).set i ((addK s v i).getD i 0 + v.getD i 0)
theorem addK_len (s v : List UInt32) (i : Nat) : (addK s v i).length = s.length := by
  induction i with
  | zero => rfl
  | succ i ih => simp only [addK, List.length_set, ih]
def mixL (s b K : List UInt32) : List UInt32 := addK s (rnds b K s 64) 8
theorem list8 {α : Type} (l : List α) (h : l.length = 8) : ∃ a b c d e f g i, l = [a, b, c, d, e, f, g, i] := by
  match l, h with
  | [a, b, c, d, e, f, g, i], _ => exact ⟨a, b, c, d, e, f, g, i, rfl⟩

theorem rotr_t (x : UInt32) (k : Int) (w : World) (h : 1 ≤ k ∧ k ≤ 31) : Calls Try.prog 118 #[U x, .int .i64 k] w fun e w' => e = .returned (U (rotr x k.toNat)) ∧ w' = w :=
  rotr_k x k k.toNat w (by omega) (by omega)
/-- Numbers of 32 bits that lie somewhere. -/
def RdU (w : World) (p : Option Addr) (ks : List UInt32) : Prop := ∀ i (h : i < ks.length), ∃ g o, p = some ⟨g, o, none⟩ ∧ w.cell? ⟨g, o + i, none⟩ = some (U ks[i])
theorem RdU.below {w w' : World} {p : Option Addr} {qs : List UInt32} (h : RdU w p qs) (hb : Below w.heap.size w w') : RdU w' p qs := by
  intro i hi
  obtain ⟨g, o, h1, h2⟩ := h i hi
  exact ⟨g, o, h1, (hb.cell (p := ⟨g, o + i, none⟩) (World.block_lt_of_cell? _ _ h2)).trans h2⟩

/-- A cell of an array by value. -/
theorem index_agg (t e n : Nat) (hu : Try.prog.underlying t = some (.array n e)) (hs : (Try.prog.info? e).map (·.size) = some 1) (he : Try.prog.underlying e = some (.int .u32)) (xs : List UInt32) (hx : xs.length = n) (i : Nat) (hi : i < xs.length) (w : World) :
    (Instr.index t (.agg (xs.map U).toArray) (.int .i64 (i : Int))).run Try.prog w = .ok (U (xs[i]'hi)) w := by
  obtain ⟨ti, h1, h2⟩ : ∃ ti, Try.prog.info? e = some ti ∧ ti.size = 1 := by simpa using hs
  subst hx
  have h3 : (i : Int) < (xs.length : Int) := by omega
  have h4 : (0 : Int) ≤ (i : Int) := by omega
  simp [Instr.index, asIntOf, run_underlying hu, run_underlying he, sizeOf, typeInfo, h1, h2, h3, part, isAgg, hi]

theorem Try.infoA8 : (Try.prog.info? 143).map (·.size) = some 8 := by kernel_rfl
def MixR (w : World) (X : List UInt32) (e : Ending) (w' : World) : Prop := e = .returned (.agg (X.map U).toArray) ∧ Below w.heap.size w w'

def MxRel (w : World) (W K s : List UInt32) (v19 : Value) (wr : World) : Prop := ∃ i : Nat, v19 = .int .i64 (i : Int) ∧ i ≤ 64 ∧ ArrU wr w.heap.size 143 s ∧ ArrU wr (w.heap.size + 1) 143 (List.replicate 8 0) ∧ ArrU wr (w.heap.size + 1 + 1) 143 (rnds W K s i) ∧ Below w.heap.size w wr
def MxRel2 (w : World) (s v : List UInt32) (v94 : Value) (wr : World) : Prop := ∃ i : Nat, v94 = .int .i64 (i : Int) ∧ i ≤ 8 ∧ ArrU wr w.heap.size 143 (addK s v i) ∧ ArrU wr (w.heap.size + 1) 143 (List.replicate 8 0) ∧ Below w.heap.size w wr

set_option maxHeartbeats 8000000 in
set_option maxRecDepth 100000 in
theorem mix_c (S : Nat → Prop) (p : Option Addr) (n c : Nat) (b : List UInt8) (q : Option Addr) (nk ck : Nat) (K s : List UInt32) (w : World) (hR : Rd w S p b) (hn : b.length = n) (h64 : 64 ≤ n) (hc : n ≤ c)
    (hs : s.length = 8) (hK : RdU w q K) (hKl : K.length = nk) (hk64 : nk = 64) :
    Calls Try.prog 108 #[.agg (s.map U).toArray, .slice p n c, .slice q nk ck] w (MixR w (mixL s (sched b) K)) := by
  subst hk64
  have HK := Lib.hid (And.intro hK hKl)
  have HR := Lib.hid (And.intro hR (And.intro hn hc))
  obtain ⟨s0, s1, s2, s3, s4, s5, s6, s7, rfl⟩ := list8 s hs
  clear hK hKl hR hn hc
  obtain ⟨SB, hSB⟩ : ∃ x, x = sched b := ⟨_, rfl⟩
  have HSB := Lib.hid (And.intro hSB (show SB.length = 64 by rw [hSB]; exact sched_len b))
  rw [← hSB]
  have hA : ∀ W1 w1, W1 = ((w.alloc (.cells #[U s0, U s1, U s2, U s3, U s4, U s5, U s6, U s7] 143)).alloc (.cells #[.int .u32 0, .int .u32 0, .int .u32 0, .int .u32 0, .int .u32 0, .int .u32 0, .int .u32 0, .int .u32 0] 143)).alloc (.cells #[U s0, U s1, U s2, U s3, U s4, U s5, U s6, U s7] 143) →
      Below W1.heap.size W1 w1 → MxRel w SB K [s0, s1, s2, s3, s4, s5, s6, s7] (.int .i64 0) w1 := by
    rintro W1 w1 rfl hb
    have r1 := ArrU.new w 143 [s0, s1, s2, s3, s4, s5, s6, s7]
    have r2 : ArrU _ _ 143 (List.replicate 8 0) := ArrU.new (w.alloc (.cells #[U s0, U s1, U s2, U s3, U s4, U s5, U s6, U s7] 143)) 143 (List.replicate 8 0)
    have r3 := ArrU.new ((w.alloc (.cells #[U s0, U s1, U s2, U s3, U s4, U s5, U s6, U s7] 143)).alloc (.cells #[.int .u32 0, .int .u32 0, .int .u32 0, .int .u32 0, .int .u32 0, .int .u32 0, .int .u32 0, .int .u32 0] 143)) 143 [s0, s1, s2, s3, s4, s5, s6, s7]
    simp only [World.size_alloc] at r2 r3
    have z1 : ∀ (u : World) (o : Obj), Below u.heap.size u (u.alloc o) := fun u o => (Below.refl _ _).alloc (Nat.le_refl _) o
    exact ⟨0, rfl, by omega, ((r1.below (z1 _ _)).below (z1 _ _)).below hb, (r2.below (z1 _ _)).below hb, r3.below hb, (((z1 w _).alloc (by simp) _).alloc (by simp; omega) _).trans (hb.mono (by simp; omega))⟩
  have HA := Lib.hid hA
  clear hA
  have sp : ∀ (wx : World), Below w.heap.size w wx → Calls Try.prog 117 #[.slice p n c] wx (fun e w' => e = .returned (.agg (SB.map U).toArray) ∧ Below wx.heap.size wx w') := fun wx hb =>
    (spread_c S p n c b wx (HR.out.1.below hb) HR.out.2.1 h64 HR.out.2.2).mono fun e w' h => by rw [hSB]; exact h
  have SP := Lib.hid sp
  clear sp hSB
  simp only [List.map_cons, List.map_nil]
  go_enter Try.func108, Try.ntmps108
  go_upto_region 2 with (fail)
  have hb0 : ∀ (u : World) (o : Obj), Below u.heap.size u (u.alloc o) := fun u o => (Below.refl _ _).alloc (Nat.le_refl _) o
  go_wp2_with (go_at_call 117; refine (SP.out _ (((hb0 w _).alloc (by simp) _).alloc (by simp; omega) _)).mono ?_; rintro e w1 ⟨rfl, hB1⟩)
  have HM := Lib.hid (HA.out _ w1 rfl hB1)
  clear hB1 HA
  go_loopw [19] (fun v19 wr => MxRel w SB K [s0, s1, s2, s3, s4, s5, s6, s7] v19 wr) (fun v19 _ => (64 - intOf v19).toNat)
  case atStart => exact HM.out
  case round =>
    clear HM
    obtain ⟨i, rfl, hi, hA3, hA6, hA7, hB⟩ := hrel
    by_cases hlt : i < 64
    · obtain ⟨a0, a1, a2, a3, a4, a5, a6, a7, hv⟩ := list8 _ (rnds_len SB K [s0, s1, s2, s3, s4, s5, s6, s7] rfl i)
      rw [hv] at hA7
      have c0 := hA7.c 0 (by simp)
      have c1 := hA7.c 1 (by simp)
      have c2 := hA7.c 2 (by simp)
      have c3 := hA7.c 3 (by simp)
      have c4 := hA7.c 4 (by simp)
      have c5 := hA7.c 5 (by simp)
      have c6 := hA7.c 6 (by simp)
      have c7 := hA7.c 7 (by simp)
      have f0 := hA7.fr 0
      have f4 := hA7.fr 4
      simp only [List.getElem_cons_zero, List.getElem_cons_succ] at c0 c1 c2 c3 c4 c5 c6 c7
      obtain ⟨gk, ok, rfl, ck⟩ := (HK.out.1.below hB) i (by rw [HK.out.2]; exact hlt)
      have hsl : SB.length = 64 := HSB.out.2
      have ix := fun wx => index_agg 147 142 64 Try.underlying147 (by kernel_rfl) Try.underlying142 SB hsl i (by rw [hsl]; exact hlt) wx
      obtain ⟨kk, hkk⟩ : ∃ x, x = K[i]'(by rw [HK.out.2]; exact hlt) := ⟨_, rfl⟩
      obtain ⟨ww, hww⟩ : ∃ x, x = SB[i]'(by rw [hsl]; exact hlt) := ⟨_, rfl⟩
      rw [← hkk] at ck
      rw [← hww] at ix
      have hst : rnds SB K [s0, s1, s2, s3, s4, s5, s6, s7] (i + 1) = rnd [a0, a1, a2, a3, a4, a5, a6, a7] kk ww := by
        show rnd (rnds SB K _ i) _ _ = _
        rw [hv, hkk, hww]
        simp only [List.getD_eq_getElem?_getD, List.getElem?_eq_getElem (by rw [HK.out.2]; exact hlt : i < K.length), List.getElem?_eq_getElem (by rw [hsl]; exact hlt : i < SB.length), Option.getD_some]
      have HST := Lib.hid hst
      have HB := Lib.hid (And.intro hA3 (And.intro hA6 (And.intro hA7 hB)))
      have hlI : (i : Int) < 64 := by omega
      have hi0 : (0 : Int) ≤ (i : Int) := by omega
      clear hst hv hkk hww hsl hA3 hA6 hA7 hB
      go_upto_region 5 with (fail)
      go_quiet (fail)
      go_upto_region 6 with (fail)
      go_quiet ((go_at_call 118; exact quiet_on (rotr_t _ _ _ (by omega))))
      go_upto_region 7 with (fail)
      go_quiet ((go_at_call 118; exact quiet_on (rotr_t _ _ _ (by omega))))
      go_upto_region 8 with (fail)
      have hsrc : ∀ (j : Nat) (v : Value), [U a0, U a1, U a2, U a3, U a4, U a5, U a6][j]? = some v → wr.cell? ((⟨w.heap.size + 1 + 1, 0, none⟩ : Addr).add j) = some v := by
        intro j v hv
        have hj : j < 7 := by have := (List.getElem?_eq_some_iff.1 hv).1; simpa using this
        have e : (⟨w.heap.size + 1 + 1, 0, none⟩ : Addr).add j = ⟨w.heap.size + 1 + 1, j, none⟩ := by unfold Addr.add; split <;> simp_all
        rw [e]
        have hc : j = 0 ∨ j = 1 ∨ j = 2 ∨ j = 3 ∨ j = 4 ∨ j = 5 ∨ j = 6 := by omega
        rcases hc with rfl | rfl | rfl | rfl | rfl | rfl | rfl <;> (simp at hv; subst hv; assumption)
      have HS := Lib.hid hsrc
      clear hsrc
      go_region_law (refine step_copy_splice rfl (.tmp 80) (.tmp 81) 144 144 rfl 142 Try.underlying144 (by kernel_rfl) _ _ _ _ _ _ rfl rfl (w.heap.size + 1 + 1) 1 [U a0, U a1, U a2, U a3, U a4, U a5, U a6, U a7] 143 HB.out.2.2.1 [U a0, U a1, U a2, U a3, U a4, U a5, U a6] rfl (fun _ => ⟨rfl, _, rfl, HS.out⟩) (by simp) (by simp [U_one]) (w.heap.size + 1 + 1) wr ⟨rfl, rfl, rfl, Nat.le_refl _, fun _ _ => rfl⟩ (Nat.le_refl _) ?_; intro w4 hg4 hb4)
      have hA4 : ArrU w4 (w.heap.size + 1 + 1) 143 [a0, a0, a1, a2, a3, a4, a5, a6] := hg4.out
      have hs4 : w.heap.size + 1 + 1 < w4.heap.size := hA4.lt
      clear c0 c1 c2 c3 c4 c5 c6 c7 f0 f4 ix ck
      have d4 := hA4.c 4 (by simp)
      have g4 := hA4.fr 4
      have g0 := hA4.fr 0
      have d0 := hA4.c 0 (by simp)
      simp only [List.getElem_cons_zero, List.getElem_cons_succ] at d4 d0
      go_wp2
      refine ⟨⟨i + 1, by simp, by omega, ?_, ?_, ?_, ?_⟩, by simp [intOf]; omega⟩
      · exact HB.out.1.only (((Only.of_belowN hb4).setCell _ _ (.inl (Nat.le_refl _))).setCell _ _ (.inl (Nat.le_refl _))) (by omega)
      · exact HB.out.2.1.only (((Only.of_belowN hb4).setCell _ _ (.inl (Nat.le_refl _))).setCell _ _ (.inl (Nat.le_refl _))) (by omega)
      · rw [HST.out]
        exact (hA4.set 4 _).set 0 _
      · exact ((HB.out.2.2.2.trans (hb4.mono (by omega))).setCell (by simp; omega) _).setCell (by simp; omega) _
    · have h64i : i = 64 := by omega
      have hge : ¬ (i : Int) < 64 := by omega
      rw [h64i] at hA7
      obtain ⟨V, hV⟩ : ∃ V, V = rnds SB K [s0, s1, s2, s3, s4, s5, s6, s7] 64 := ⟨_, rfl⟩
      have hVl : V.length = 8 := by rw [hV]; exact rnds_len _ _ _ rfl 64
      rw [← hV] at hA7
      have HV := Lib.hid hV
      have HB := Lib.hid (And.intro hA3 (And.intro hA6 (And.intro hA7 (And.intro hB hVl))))
      clear hlt hi h64i hA3 hA6 hA7 hB hV hVl
      go_upto_region 12 with (fail)
      clear hge
      go_wp2_with (first
        | (refine ld_arrU rfl 143 (.tmp 7) rfl (w.heap.size + 1 + 1) rfl _ V HB.out.2.2.1 _ _ Try.underlying143 (by rw [HB.out.2.2.2.2]; exact Try.infoA8) ?_))
      go_loopw [94] (fun v94 wr => MxRel2 w [s0, s1, s2, s3, s4, s5, s6, s7] V v94 wr) (fun v94 _ => (8 - intOf v94).toNat)
      case atStart => exact ⟨0, rfl, by omega, HB.out.1, HB.out.2.1, HB.out.2.2.2.1⟩
      case round =>
        have HVl := Lib.hid HB.out.2.2.2.2
        clear HB
        obtain ⟨i, rfl, hi, hA3, hA6, hB⟩ := hrel
        by_cases hlt : i < 8
        · have hsl : (addK [s0, s1, s2, s3, s4, s5, s6, s7] V i).length = 8 := by rw [addK_len]; rfl
          have cc := hA3.c i (by rw [hsl]; exact hlt)
          have ff := hA3.fr i
          have ix := fun wx => index_agg 143 142 8 Try.underlying143 (by kernel_rfl) Try.underlying142 V HVl.out i (by rw [HVl.out]; exact hlt) wx
          obtain ⟨x1, h1⟩ : ∃ x, x = (addK [s0, s1, s2, s3, s4, s5, s6, s7] V i)[i]'(by rw [hsl]; exact hlt) := ⟨_, rfl⟩
          obtain ⟨x2, h2⟩ : ∃ x, x = V[i]'(by rw [HVl.out]; exact hlt) := ⟨_, rfl⟩
          rw [← h1] at cc
          rw [← h2] at ix
          have hst : addK [s0, s1, s2, s3, s4, s5, s6, s7] V (i + 1) = (addK [s0, s1, s2, s3, s4, s5, s6, s7] V i).set i (x1 + x2) := by
            rw [h1, h2]
            show ((addK _ V i).set i _) = _
            simp only [List.getD_eq_getElem?_getD, List.getElem?_eq_getElem (by rw [HVl.out]; exact hlt : i < V.length), List.getElem?_eq_getElem (by rw [hsl]; exact hlt : i < (addK [s0, s1, s2, s3, s4, s5, s6, s7] V i).length), Option.getD_some]
          have HST := Lib.hid hst
          have HB := Lib.hid (And.intro hA3 (And.intro hA6 hB))
          have hlI : (i : Int) < 8 := by omega
          have hi0 : (0 : Int) ≤ (i : Int) := by omega
          clear hst h1 h2 hsl hA3 hA6 hB
          go_wp2
          refine ⟨⟨i + 1, by simp, by omega, by rw [HST.out]; exact HB.out.1.set i _, HB.out.2.1.only ((Only.refl (fun k => k = w.heap.size) wr).setCell _ _ (.inl rfl)) (by omega), HB.out.2.2.setCell (by simp) _⟩, by simp [intOf]; omega⟩
        · obtain rfl : i = 8 := by omega
          have hsl : (addK [s0, s1, s2, s3, s4, s5, s6, s7] V 8).length = 8 := by rw [addK_len]; rfl
          have HB := Lib.hid (And.intro hA3 (And.intro hA6 (And.intro hB hsl)))
          clear hA3 hA6 hB hsl
          go_upto_region 17 with (fail)
          go_wp2_with (first
            | (refine ld_arrU rfl 143 _ rfl w.heap.size rfl _ _ HB.out.1 _ _ Try.underlying143 (by rw [HB.out.2.2.2]; exact Try.infoA8) ?_)
            | (refine st_arrU rfl 143 _ _ rfl (w.heap.size + 1) _ rfl rfl _ _ HB.out.2.1 (by rw [HB.out.2.2.2]; exact Try.infoA8) (by rw [HB.out.2.2.2]; simp) ?_; intro w5 hA5 hO5))
          refine bodyPost_ret (v := .agg ((addK [s0, s1, s2, s3, s4, s5, s6, s7] V 8).map U).toArray) (results_cell_row (P := Try.prog) Try.results108 _ _ (w.heap.size + 1) _ _ _ _ rfl hA5 Try.underlying143 rfl (by rw [Try.infoA8]; simp [HB.out.2.2.2])) rfl (And.intro ?_ ?_)
          · rw [HV.out]; rfl
          · exact below_only HB.out.2.2.1 HB.out.2.2.1.size hO5 (by intro k hk e; omega)
end Go.Proofs.Ytegmimnhkohaoaa
