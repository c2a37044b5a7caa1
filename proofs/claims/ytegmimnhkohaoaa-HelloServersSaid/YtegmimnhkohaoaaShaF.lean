/-
  The contract of sha.Sum. Condition: at most 2 to the 47th bytes, less two thousand.
-/
import Derived.Test.YtegmimnhkohaoaaShaE
import Derived.Deep.RegionLaw
namespace Go.Kx
open Go.RowKit
/-- An array of bytes in a block of its own. -/
def ArrB (w : World) (r t : Nat) (xs : List UInt8) : Prop := w.heap[r]? = some (.cells (xs.map B8).toArray t (0, 0))
theorem ArrB.c {w : World} {r t : Nat} {xs : List UInt8} (h : ArrB w r t xs) (i : Nat) (hi : i < xs.length) : w.cell? ⟨r, i, none⟩ = some (B8 (xs[i]'hi)) := by
  unfold ArrB at h
  simp [World.cell?, h, hi]
theorem ArrB.fr {w : World} {r t : Nat} {xs : List UInt8} (h : ArrB w r t xs) (o : Nat) : w.frozen? ⟨r, o, none⟩ = false := by unfold ArrB at h; simp [World.frozen?, h]
theorem ArrB.lt {w : World} {r t : Nat} {xs : List UInt8} (h : ArrB w r t xs) : r < w.heap.size := (Array.getElem?_eq_some_iff.1 h).1
theorem ArrB.only {w w' : World} {q : Nat → Prop} {r t : Nat} {xs : List UInt8} (h : ArrB w r t xs) (ho : Only q w w') (hd : ¬ q r) : ArrB w' r t xs := (ho.block r h.lt hd).trans h
theorem ArrB.below {w w' : World} {r t : Nat} {xs : List UInt8} (h : ArrB w r t xs) (ho : Below w.heap.size w w') : ArrB w' r t xs := (ho.block r h.lt).trans h
theorem ArrB.new (w : World) (t : Nat) (xs : List UInt8) : ArrB (w.alloc (.cells (xs.map B8).toArray t)) w.heap.size t xs := heap_alloc_new w _
theorem ArrB.set {w : World} {r t : Nat} {xs : List UInt8} (h : ArrB w r t xs) (i : Nat) (x : UInt8) : ArrB (w.setCell ⟨r, i, none⟩ (B8 x)) r t (xs.set i x) := by
  unfold ArrB at *
  simp [World.setCell, Array.getElem?_modify, h, List.map_set]
theorem arrB_ones (xs : List UInt8) : ((xs.map B8).toArray).all (fun v => v.oneCell') = true := by
  rw [Array.all_eq_true_iff_forall_mem]
  intro v hv
  simp only [List.mem_toArray, List.mem_map] at hv
  obtain ⟨x, _, rfl⟩ := hv
  rfl
theorem only_setRow' (w : World) (r : Nat) (C : Array Value) : Only (· = r) w (w.setRow r C) :=
  ⟨rfl, rfl, rfl, by simp, fun k _ hk => by simp only [World.setRow, Array.getElem?_modify]; rw [if_neg (by omega)]⟩
theorem ArrB.setRow {w : World} {r t : Nat} {xs : List UInt8} (h : ArrB w r t xs) (ys : List UInt8) : ArrB (w.setRow r (ys.map B8).toArray) r t ys := by
  unfold ArrB at *
  simp [World.setRow, Array.getElem?_modify, h]
theorem ld_arrB {P : Program} {ops : Array Oper} {rest : List Oper} {op : Oper} {a : Act} {w : World} {Q : Exit → Act → World → Prop} (hgd : op.guard = none) (ty : TypeId) (x : Operand) (ho : op.op = .load ty x)
    (g : Nat) (hx : a.eval x = .pointer (some ⟨g, 0, none⟩)) (t : TypeId) (xs : List UInt8) (hg : ArrB w g t xs) (n e : Nat) (hu : P.underlying ty = some (.array n e)) (hi : (P.info? ty).map (·.size) = some xs.length)
    (h : wpList P ops Q rest (a.put op.dst (.agg (xs.map B8).toArray)) w) : wpList P ops Q (op :: rest) a w :=
  wpList_load_row hgd ty x ho g hx t _ (0, 0) (.array n e) hg hu rfl (by rw [hi]; simp) h
theorem st_arrB {P : Program} {ops : Array Oper} {rest : List Oper} {op : Oper} {a : Act} {w : World} {Q : Exit → Act → World → Prop} (hgd : op.guard = none) (ty : TypeId) (x y : Operand) (ho : op.op = .store ty x y)
    (g : Nat) (xs : List UInt8) (hx : a.eval x = .pointer (some ⟨g, 0, none⟩)) (hy : a.eval y = .agg (xs.map B8).toArray) (t : TypeId) (old : List UInt8) (hg : ArrB w g t old) (hi : (P.info? ty).map (·.size) = some xs.length) (hl : old.length = xs.length)
    (h : ∀ w', ArrB w' g t xs → Only (· = g) w w' → wpList P ops Q rest (a.put op.dst undef) w') : wpList P ops Q (op :: rest) a w :=
  wpList_store_row hgd ty x y ho g _ hx hy t _ hg (by rw [hi]; simp) (by simpa using hl) (arrB_ones xs) (h _ (hg.setRow xs) (only_setRow' w g _))
end Go.Kx
namespace Go.Proofs.Ytegmimnhkohaoaa
open Go.RowKit Go.Kx
set_option linter.unusedVariables false
set_option linter.unusedSimpArgs false
attribute [local go_sem ↓] U_add U_mul U_xor U_or U_and U_not U_guard1 U_guard2 U_store exec_stU
attribute [local go_sem] st1_U st1_i

/-- The eight numbers behind so many blocks. -/
def hashS (M : List UInt8) : Nat → List UInt32
  | 0 => rootsL 8 false
  | j + 1 => mixL (hashS M j) (sched (M.drop (64 * j))) (rootsL 64 true)
/-- A byte of the sum. -/
def low8 (x : UInt32) : UInt8 := UInt8.ofNat x.toNat
def outB (s : List UInt32) (i : Nat) : UInt8 := low8 (shr32 (s.getD (i / 4) 0) (24 - 8 * (i % 4)))
def outK (s : List UInt32) : Nat → List UInt8
  | 0 => List.replicate 32 0
  | i + 1 => (outK s i).set i (outB s i)
def sumL (b : List UInt8) : List UInt8 := outK (hashS (padL b) ((padL b).length / 64)) 32
theorem outK_len (s : List UInt32) (i : Nat) : (outK s i).length = 32 := by
  induction i with
  | zero => simp [outK]
  | succ i ih => simp only [outK, List.length_set, ih]
theorem sumL_len (b : List UInt8) : (sumL b).length = 32 := outK_len _ _
theorem mixL_len (s b K : List UInt32) : (mixL s b K).length = s.length := addK_len _ _ _
theorem rootsL_len {n : Nat} (h : n ≤ 64) (c : Bool) : (rootsL n c).length = n := by unfold rootsL; rw [List.length_map]; exact primesL_len h
theorem hashS_len (M : List UInt8) (j : Nat) : (hashS M j).length = 8 := by
  induction j with
  | zero => exact rootsL_len (by omega) false
  | succ j ih => rw [hashS, mixL_len, ih]
theorem RdU.only {w w' : World} {q : Nat → Prop} {g o : Nat} {ks : List UInt32} (h : RdU w (some ⟨g, o, none⟩) ks) (ho : Only q w w') (hd : ¬ q g) : RdU w' (some ⟨g, o, none⟩) ks := by
  intro i hi
  obtain ⟨g', o', h1, h2⟩ := h i hi
  cases h1
  refine ⟨g, o, rfl, ?_⟩
  have hlt := World.block_lt_of_cell? _ _ h2
  exact (World.cell?_of_block (w := w) (w' := w') (ho.block g hlt hd)).trans h2

theorem cvU8 (x : UInt32) (w : World) : (convert 142 5 (U x)).run Try.prog w = .ok (.int .u8 ((low8 x).toNat : Int)) w := by
  unfold low8
  have hk : Try.prog.intKind 5 = .u8 := by kernel_rfl
  have h2 := run_convert_int (P := Try.prog) (w := w) 142 5 .u32 (x.toNat : Int) (by rw [Try.underlying142]; rfl) (by rw [hk]; exact Try.underlying5)
  have h : IntKind.u8.wrap (x.toNat : Int) = ((UInt8.ofNat x.toNat).toNat : Int) := by
    rw [UInt8.toNat_ofNat']
    unfold IntKind.wrap
    simp [IntKind.bits, IntKind.signed]
  rw [hk, h] at h2
  exact h2
theorem Try.infoB32 : (Try.prog.info? 22).map (·.size) = some 32 := by kernel_rfl
def SumR (w : World) (X : List UInt8) (e : Ending) (w' : World) : Prop := e = .returned (.agg (X.map B8).toArray) ∧ Below w.heap.size w w'

/-- At the head of the loop over the blocks. -/
def SmRel (w w3 : World) (M : List UInt8) (N C gm : Nat) (v5 : Value) (wr : World) : Prop := ∃ (j cc : Nat) (q : Option Addr), v5 = .slice q (N - 64 * j) cc ∧ 64 * j ≤ N ∧ (64 * j < N → q = some ⟨gm, 64 * j, none⟩ ∧ cc = C - 64 * j) ∧ ArrU wr (w.heap.size + 1) 143 (hashS M j) ∧ Only (· = w.heap.size + 1) w3 wr
def SmMeas (v5 : Value) : Nat := match v5 with
  | .slice _ n _ => n
  | _ => 0
/-- At the head of the loop over the bytes. -/
def SmRel2 (w w3 : World) (s : List UInt32) (v23 : Value) (wr : World) : Prop := ∃ i : Nat, v23 = .int .i64 (i : Int) ∧ i ≤ 32 ∧ ArrB wr w3.heap.size 22 (outK s i) ∧ Below w3.heap.size w3 wr

set_option maxHeartbeats 8000000 in
set_option maxRecDepth 100000 in
theorem sum_c (S : Nat → Prop) (p : Option Addr) (n c : Nat) (b : List UInt8) (w : World) (hR : Rd w S p b) (hp : p = none → c = 0) (hl : b.length + 2000 ≤ 140737488355328) (hn : b.length = n) :
    Calls Try.prog 66 #[.slice p n c] w (SumR w (sumL b)) := by
  have HR := Lib.hid (And.intro hR (And.intro hp (And.intro hl hn)))
  clear hR hp hn hl
  obtain ⟨W0, hW0⟩ : ∃ W0, W0 = (w.alloc (.cells #[.int .u8 0, .int .u8 0, .int .u8 0, .int .u8 0, .int .u8 0, .int .u8 0, .int .u8 0, .int .u8 0, .int .u8 0, .int .u8 0, .int .u8 0, .int .u8 0, .int .u8 0, .int .u8 0, .int .u8 0, .int .u8 0, .int .u8 0, .int .u8 0, .int .u8 0, .int .u8 0, .int .u8 0, .int .u8 0, .int .u8 0, .int .u8 0, .int .u8 0, .int .u8 0, .int .u8 0, .int .u8 0, .int .u8 0, .int .u8 0, .int .u8 0, .int .u8 0] 22)).alloc (.cells #[.int .u32 0, .int .u32 0, .int .u32 0, .int .u32 0, .int .u32 0, .int .u32 0, .int .u32 0, .int .u32 0] 143) := ⟨_, rfl⟩
  have hA2 : ArrB W0 w.heap.size 22 (List.replicate 32 0) := by
    have r1 : ArrB _ _ 22 (List.replicate 32 0) := ArrB.new w 22 (List.replicate 32 0)
    rw [hW0]
    exact r1.below ((Below.refl _ _).alloc (Nat.le_refl _) _)
  have hA3 : ArrU W0 (w.heap.size + 1) 143 (List.replicate 8 0) := by
    have r2 : ArrU _ _ 143 (List.replicate 8 0) := ArrU.new (w.alloc (.cells #[.int .u8 0, .int .u8 0, .int .u8 0, .int .u8 0, .int .u8 0, .int .u8 0, .int .u8 0, .int .u8 0, .int .u8 0, .int .u8 0, .int .u8 0, .int .u8 0, .int .u8 0, .int .u8 0, .int .u8 0, .int .u8 0, .int .u8 0, .int .u8 0, .int .u8 0, .int .u8 0, .int .u8 0, .int .u8 0, .int .u8 0, .int .u8 0, .int .u8 0, .int .u8 0, .int .u8 0, .int .u8 0, .int .u8 0, .int .u8 0, .int .u8 0, .int .u8 0] 22)) 143 (List.replicate 8 0)
    simp only [World.size_alloc] at r2
    rw [hW0]
    exact r2
  have hB0 : Below w.heap.size w W0 := by rw [hW0]; exact ((Below.refl _ _).alloc (Nat.le_refl _) _).alloc (by simp) _
  have H0 := Lib.hid (And.intro hA2 (And.intro hA3 hB0))
  have HE := Lib.hid hW0.symm
  have hlt3 := hA3.lt
  clear hW0 hA2 hA3 hB0
  obtain ⟨H8, hH8⟩ : ∃ x, x = rootsL 8 false := ⟨_, rfl⟩
  have hH8l : H8.length = 8 := by rw [hH8]; exact rootsL_len (by omega) false
  obtain ⟨h0, h1, h2, h3, h4, h5, h6, h7, he8⟩ := list8 H8 hH8l
  have R8 : ∀ wx, Calls Try.prog 106 #[.int .i64 8, .bool false] wx (RoR wx 8 false) := fun wx => roots_c 8 false wx (by omega)
  have HR8 := Lib.hid (And.intro R8 (And.intro hH8 (And.intro hH8l he8)))
  clear R8 hH8 hH8l he8
  go_enter Try.func66, Try.ntmps66
  go_upto_region 2 with (fail)
  rw [HE.out]
  go_region_held3 (fun w' => True) (trivial) (first
    | (go_at_call 106; refine (HR8.out.1 _).mono ?_; rintro e w1 ⟨g8, c8, rfl, k1, k2, k3, k4⟩; rw [← HR8.out.2.1, HR8.out.2.2.2] at k1; have HK4 := Lib.hid (And.intro k1 (undrew k4)); clear k1 k4)
    | (refine step_copy_splice rfl (.tmp 8) (.tmp 9) 144 144 rfl 142 Try.underlying144 (by kernel_rfl) _ _ _ _ _ _ rfl rfl (w.heap.size + 1) 0 (List.replicate 8 (.int .u32 0)) 143 (H0.out.2.1.below HK4.out.2) [U h0, U h1, U h2, U h3, U h4, U h5, U h6, U h7] rfl (fun _ => ⟨rfl, _, rfl, HK4.out.1.1.cells (g := g8) rfl⟩) (by simp) (by simp [U_one]) (w.heap.size + 1) W0 (HK4.out.2.mono (Nat.le_of_lt hlt3)) (Nat.le_refl _) ?_; intro w4 hg4 hb4))
  have hA4 : ArrU w4 (w.heap.size + 1) 143 H8 := by rw [HR8.out.2.2.2]; exact hg4.out
  have hR4 : ArrB w4 w.heap.size 22 (List.replicate 32 0) := H0.out.1.only (Only.of_belowN hb4) (by omega)
  have hB4 : Below w.heap.size w w4 := H0.out.2.2.trans (hb4.mono (by omega))
  have H4 := Lib.hid (And.intro hA4 (And.intro hR4 hB4))
  clear hA4 hR4 hB4 hg4 hb4 HK4
  have RK := Lib.hid (fun wx => roots_c 64 true wx (by omega))
  obtain ⟨K, hK⟩ : ∃ x, x = rootsL 64 true := ⟨_, rfl⟩
  have HK := Lib.hid (And.intro hK (show K.length = 64 by rw [hK]; exact rootsL_len (by omega) true))
  clear hK
  have hb4w := H4.out.2.2.size
  go_wp2_with (first
    | (go_at_call 106; refine (RK.out w4).mono ?_; rintro e w2 ⟨gk, ck, rfl, k1, k2, k3, k4⟩; rw [← HK.out.1] at k1; have HKR := Lib.hid (And.intro k1 k4); clear k1 k4)
    | (go_at_call 107; refine (padded_c S p n c b w2 ((HR.out.1.below H4.out.2.2).below (HKR.out.2)) HR.out.2.1 HR.out.2.2.1 HR.out.2.2.2).mono ?_; rintro e w3 ⟨gm, N, C, rfl, m1, m2, m3, m4, m5, m6, m7⟩; have HM := Lib.hid (And.intro m1 (And.intro m2 m7)); clear m1 m2 m7))
  obtain ⟨M, hM⟩ : ∃ x, x = padL b := ⟨_, rfl⟩
  have hN64 : N % 64 = 0 := by rw [← HM.out.1]; exact (padL_len b).1
  have hCm : C ≤ 9223372036854775807 := by unfold maxLen at m6; exact m6
  have hB2 : Below w.heap.size w w2 := H4.out.2.2.trans (HKR.out.2.mono hb4w)
  have hB3 : Below w.heap.size w w3 := hB2.trans (HM.out.2.2.mono hB2.size)
  have hA3 : ArrU w3 (w.heap.size + 1) 143 (hashS M 0) := by
    have h := (H4.out.1.below HKR.out.2).below HM.out.2.2
    rw [show hashS M 0 = H8 by rw [HR8.out.2.1]; rfl]
    exact h
  have hR3 : ArrB w3 w.heap.size 22 (List.replicate 32 0) := (H4.out.2.1.below HKR.out.2).below HM.out.2.2
  have hM3 : Rd w3 (fun k => k = gm) (some ⟨gm, 0, none⟩) M ∧ M.length = N := by rw [hM]; exact ⟨HM.out.2.1.rd, HM.out.1⟩
  have hK3 : RdU w3 (some ⟨gk, 0, none⟩) K := by
    have h : RdU w2 (some ⟨gk, 0, none⟩) K := by
      intro i hi
      refine ⟨gk, 0, rfl, ?_⟩
      have hc := HKR.out.1.1.cells (g := gk) rfl i (U K[i]) (by simp [hi])
      have e : (⟨gk, 0, none⟩ : Addr).add i = ⟨gk, 0 + i, none⟩ := by unfold Addr.add; split <;> simp_all
      rwa [e] at hc
    exact h.below HM.out.2.2
  have hs34 : w.heap.size + 1 < w4.heap.size := H4.out.1.lt
  have hs42 := HKR.out.2.size
  have hs23 := HM.out.2.2.size
  have H3 := Lib.hid (And.intro hA3 (And.intro hR3 (And.intro hM3 (And.intro hK3 hB3))))
  have HMM := Lib.hid hM
  clear hA3 hR3 hM3 hK3 hB3 hB2 hM
  go_loopw [5] (fun v5 wr => SmRel w w3 M N C gm v5 wr) (fun v5 _ => SmMeas v5)
  case atStart => exact ⟨0, C, _, rfl, by omega, fun _ => ⟨rfl, rfl⟩, H3.out.1, Only.refl _ _⟩
  case round =>
    obtain ⟨j, cc, q, rfl, hj, hq, hA, hO⟩ := hrel
    have HO := Lib.hid hO
    have hszr := hO.size
    by_cases hlt : 64 * j < N
    · obtain ⟨rfl, rfl⟩ := hq hlt
      have hsl : (hashS M j).length = 8 := hashS_len M j
      have hst : hashS M (j + 1) = mixL (hashS M j) (sched (M.drop (64 * j))) K := by rw [HK.out.1]; rfl
      obtain ⟨n', hn'⟩ : ∃ n', n' = N - 64 * j := ⟨_, rfl⟩
      obtain ⟨c', hc'⟩ : ∃ c', c' = C - 64 * j := ⟨_, rfl⟩
      obtain ⟨o', ho'⟩ : ∃ o', o' = 64 * j := ⟨_, rfl⟩
      rw [← hn', ← hc', ← ho']
      have hRd : Rd wr (fun k => k = gm) (some ⟨gm, 0 + o', none⟩) (M.drop o') := (H3.out.2.2.1.1.only hO (fun k hk e => by omega)).drop o'
      rw [Nat.zero_add] at hRd
      rw [← ho'] at hst
      have hRl : (M.drop o').length = n' := by rw [List.length_drop, H3.out.2.2.1.2]; omega
      have hKr : RdU wr (some ⟨gk, 0, none⟩) K := H3.out.2.2.2.1.only hO (by omega)
      have hn64 : 64 ≤ n' := by omega
      have hnc : n' ≤ c' := by omega
      have hc63 : c' ≤ 9223372036854775807 := by omega
      have HX := Lib.hid (And.intro hRd (And.intro hRl (And.intro hKr (And.intro hA (And.intro hst hsl)))))
      have HJ := Lib.hid (And.intro hn' (And.intro hc' ho'))
      clear hRd hRl hKr hA hst hn' hc' ho' hO hsl hq
      have hn0 : 0 < n' := by omega
      by_cases hcc : c' = 64
      · subst hcc
        have hn64' : n' = 64 := by omega
        have HNN := Lib.hid hn64'
        clear hn64'
        go_wp2_with (first
          | (refine ld_arrU rfl 143 (.tmp 3) rfl (w.heap.size + 1) rfl _ _ HX.out.2.2.2.1 _ _ Try.underlying143 (by rw [HX.out.2.2.2.2.2]; exact Try.infoA8) ?_)
          | (go_at_call 108; refine (mix_c _ _ n' 64 _ _ _ _ K _ wr HX.out.1 HX.out.2.1 hn64 hnc HX.out.2.2.2.2.2 HX.out.2.2.1 HK.out.2 rfl).mono ?_; rintro e w5 ⟨rfl, hB5⟩; rw [← HX.out.2.2.2.2.1]; have HB5 := Lib.hid hB5; clear hB5)
          | (refine st_arrU rfl 143 (.tmp 3) _ rfl (w.heap.size + 1) _ rfl rfl _ _ (HX.out.2.2.2.1.below HB5.out) (by rw [hashS_len]; exact Try.infoA8) (by rw [hashS_len, hashS_len]) ?_; intro w6 hA6 hO6))
        have hO36 : Only (fun k => k = w.heap.size + 1) w3 w6 := (HO.out.then (Only.of_below HB5.out)).then hO6
        refine ⟨⟨j + 1, 0, some ⟨gm, o', none⟩, by have := HJ.out; have := HNN.out; rw [show N - 64 * (j + 1) = 0 by omega], by have := HJ.out; have := HNN.out; omega, fun h => by have := HJ.out; have := HNN.out; omega, hA6, hO36⟩, ?_⟩
        show 0 < n'
        omega
      · go_wp2_with (first
          | (refine ld_arrU rfl 143 (.tmp 3) rfl (w.heap.size + 1) rfl _ _ HX.out.2.2.2.1 _ _ Try.underlying143 (by rw [HX.out.2.2.2.2.2]; exact Try.infoA8) ?_)
          | (go_at_call 108; refine (mix_c _ _ n' c' _ _ _ _ K _ wr HX.out.1 HX.out.2.1 hn64 hnc HX.out.2.2.2.2.2 HX.out.2.2.1 HK.out.2 rfl).mono ?_; rintro e w5 ⟨rfl, hB5⟩; rw [← HX.out.2.2.2.2.1]; have HB5 := Lib.hid hB5; clear hB5)
          | (refine st_arrU rfl 143 (.tmp 3) _ rfl (w.heap.size + 1) _ rfl rfl _ _ (HX.out.2.2.2.1.below HB5.out) (by rw [hashS_len]; exact Try.infoA8) (by rw [hashS_len, hashS_len]) ?_; intro w6 hA6 hO6))
        have hO36 : Only (fun k => k = w.heap.size + 1) w3 w6 := (HO.out.then (Only.of_below HB5.out)).then hO6
        refine ⟨⟨j + 1, c' - 64, some ⟨gm, o' + 64, none⟩, by have := HJ.out; rw [show N - 64 * (j + 1) = n' - 64 by omega], by have := HJ.out; omega, fun h => ⟨by have := HJ.out; rw [show 64 * (j + 1) = o' + 64 by omega], by have := HJ.out; omega⟩, hA6, hO36⟩, ?_⟩
        show n' - 64 < n'
        omega
    · have hjn : j = N / 64 := by omega
      have h0 : N - 64 * j = 0 := by omega
      rw [h0]
      obtain ⟨st, hst⟩ : ∃ x, x = hashS M j := ⟨_, rfl⟩
      have hsl : st.length = 8 := by rw [hst]; exact hashS_len M j
      rw [← hst] at hA
      have HS := Lib.hid (And.intro hst (And.intro hsl (And.intro hA hjn)))
      have hs8 := hA.lt
      clear hq h0 hlt hst hsl hA hO hjn
      obtain ⟨wo, rfl⟩ : ∃ wo : World, wo = wr := ⟨_, rfl⟩
      have h01 : SmRel2 w wo st (.int .i64 0) (wo.alloc (.cells ((List.replicate 32 (0 : UInt8)).map B8).toArray 22)) := ⟨0, rfl, by omega, ArrB.new _ _ _, (Below.refl _ _).alloc (Nat.le_refl _) _⟩
      have H01 := Lib.hid h01
      clear h01
      have cv := cvU8
      go_wp2
      go_loopw [23] (fun v23 wx => SmRel2 w wo st v23 wx) (fun v23 _ => (32 - intOf v23).toNat)
      case atStart => exact H01.out
      case round =>
        obtain ⟨i, rfl, hi, hA, hB⟩ := hrel
        have HB := Lib.hid (And.intro hA hB)
        have hszx := hB.size
        by_cases hlt : i < 32
        · have hol := outK_len st i
          have c1 := (HS.out.2.2.1.below hB).c (i / 4) (by rw [HS.out.2.1]; omega)
          have c2 := hA.c i (by rw [hol]; exact hlt)
          have f2 := hA.fr i
          obtain ⟨X, hX⟩ : ∃ x, x = st[i / 4]'(by rw [HS.out.2.1]; omega) := ⟨_, rfl⟩
          rw [← hX] at c1
          obtain ⟨Y, hY⟩ : ∃ x, x = (outK st i)[i]'(by rw [hol]; exact hlt) := ⟨_, rfl⟩
          rw [← hY] at c2
          have hst : outK st (i + 1) = (outK st i).set i (low8 (shr32 X (24 - 8 * (i % 4)))) := by
            show ((outK st i).set i (outB st i)) = _
            unfold outB
            rw [hX]
            simp only [List.getD_eq_getElem?_getD, List.getElem?_eq_getElem (by rw [HS.out.2.1]; omega : i / 4 < st.length), Option.getD_some]
          have HST := Lib.hid hst
          have hsh := fun (w : World) => U_shr (P := Try.prog) (w := w) (t := 142) X .i64 (24 - 8 * ((i : Int) % 4)) (by omega)
          rw [show (24 - 8 * ((i : Int) % 4)).toNat = 24 - 8 * (i % 4) by omega] at hsh
          have hti : ((i : Int) / 4).toNat = i / 4 := by omega
          have hlI : (i : Int) < 32 := by omega
          have hi0 : (0 : Int) ≤ (i : Int) := by omega
          clear hst hX hY hol hA hB
          go_wp2
          refine ⟨⟨i + 1, by simp, by omega, by rw [HST.out]; exact HB.out.1.set i _, HB.out.2.setCell (by simp) _⟩, by simp [intOf]; omega⟩
        · obtain rfl : i = 32 := by omega
          have hol := outK_len st 32
          have hO2 : ArrB wo w.heap.size 22 (List.replicate 32 0) := H3.out.2.1.only HO.out (by omega)
          have HO2 := Lib.hid (And.intro (hO2.below hB) hol)
          have hsr : w.heap.size < wo.heap.size := hO2.lt
          clear hA hB hol hO2
          go_upto_region 14 with (fail)
          go_wp2_with (first
            | (refine ld_arrB rfl 22 (.tmp 6) rfl wo.heap.size rfl _ _ HB.out.1 _ _ Try.underlying22 (by rw [HO2.out.2]; exact Try.infoB32) ?_)
            | (refine st_arrB rfl 22 (.tmp 2) _ rfl w.heap.size _ rfl rfl _ _ HO2.out.1 (by rw [HO2.out.2]; exact Try.infoB32) (by rw [HO2.out.2]; simp) ?_; intro w7 hA7 hO7))
          refine bodyPost_ret (v := .agg ((outK st 32).map B8).toArray) (results_cell_row (P := Try.prog) Try.results66 _ _ w.heap.size _ _ _ _ rfl hA7 Try.underlying22 rfl (by rw [Try.infoB32]; simp [HO2.out.2])) rfl (And.intro ?_ ?_)
          · rw [HS.out.1, HS.out.2.2.2, HMM.out]
            unfold sumL
            rw [HM.out.1]
          · have h1 : Below w.heap.size w wo := below_only H3.out.2.2.2.2 H3.out.2.2.2.2.size HO.out (by intro k hk e; omega)
            have h2 := h1.trans (HB.out.2.mono h1.size)
            exact below_only h2 h2.size hO7 (by intro k hk e; omega)
end Go.Proofs.Ytegmimnhkohaoaa
