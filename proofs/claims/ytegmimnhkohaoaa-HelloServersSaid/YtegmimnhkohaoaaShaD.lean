/-
  The contract of sha.spread. Condition: at least 64 bytes.
-/
import Derived.Test.YtegmimnhkohaoaaShaC
namespace Go.Proofs.Ytegmimnhkohaoaa
open Go.RowKit Go.Kx
set_option linter.unusedVariables false
set_option linter.unusedSimpArgs false
attribute [local go_sem ↓] U_add U_mul U_xor U_or U_and U_not U_shl U_shr U_guard1 U_guard2 U_store exec_stU
attribute [local go_sem] st1_U st1_i

/-- An array of numbers of 32 bits in a block of its own. -/
def ArrU (w : World) (r t : Nat) (xs : List UInt32) : Prop := w.heap[r]? = some (.cells (xs.map U).toArray t (0, 0))
theorem ArrU.c {w : World} {r t : Nat} {xs : List UInt32} (h : ArrU w r t xs) (i : Nat) (hi : i < xs.length) : w.cell? ⟨r, i, none⟩ = some (U (xs[i]'hi)) := by
  unfold ArrU at h
  simp [World.cell?, h, hi]
theorem ArrU.fr {w : World} {r t : Nat} {xs : List UInt32} (h : ArrU w r t xs) (o : Nat) : w.frozen? ⟨r, o, none⟩ = false := by unfold ArrU at h; simp [World.frozen?, h]
theorem ArrU.lt {w : World} {r t : Nat} {xs : List UInt32} (h : ArrU w r t xs) : r < w.heap.size := (Array.getElem?_eq_some_iff.1 h).1
theorem ArrU.only {w w' : World} {q : Nat → Prop} {r t : Nat} {xs : List UInt32} (h : ArrU w r t xs) (ho : Only q w w') (hd : ¬ q r) : ArrU w' r t xs := (ho.block r h.lt hd).trans h
theorem ArrU.below {w w' : World} {r t : Nat} {xs : List UInt32} (h : ArrU w r t xs) (ho : Below w.heap.size w w') : ArrU w' r t xs := (ho.block r h.lt).trans h
theorem ArrU.new (w : World) (t : Nat) (xs : List UInt32) : ArrU (w.alloc (.cells (xs.map U).toArray t)) w.heap.size t xs := heap_alloc_new w _
theorem ArrU.set {w : World} {r t : Nat} {xs : List UInt32} (h : ArrU w r t xs) (i : Nat) (x : UInt32) : ArrU (w.setCell ⟨r, i, none⟩ (U x)) r t (xs.set i x) := by
  unfold ArrU at *
  simp [World.setCell, Array.getElem?_modify, h, List.map_set]

theorem arr_ones (xs : List UInt32) : ((xs.map U).toArray).all (fun v => v.oneCell') = true := by
  rw [Array.all_eq_true_iff_forall_mem]
  intro v hv
  simp only [List.mem_toArray, List.mem_map] at hv
  obtain ⟨x, _, rfl⟩ := hv
  rfl
theorem ArrU.setRow {w : World} {r t : Nat} {xs : List UInt32} (h : ArrU w r t xs) (ys : List UInt32) : ArrU (w.setRow r (ys.map U).toArray) r t ys := by
  unfold ArrU at *
  simp [World.setRow, Array.getElem?_modify, h]
theorem only_setRow (w : World) (r : Nat) (C : Array Value) : Only (· = r) w (w.setRow r C) :=
  ⟨rfl, rfl, rfl, by simp, fun k _ hk => by simp only [World.setRow, Array.getElem?_modify]; rw [if_neg (by omega)]⟩
/-- A whole array is read, is written. -/
theorem ld_arrU {P : Program} {ops : Array Oper} {rest : List Oper} {op : Oper} {a : Act} {w : World} {Q : Exit → Act → World → Prop} (hgd : op.guard = none) (ty : TypeId) (x : Operand) (ho : op.op = .load ty x)
    (g : Nat) (hx : a.eval x = .pointer (some ⟨g, 0, none⟩)) (t : TypeId) (xs : List UInt32) (hg : ArrU w g t xs) (n e : Nat) (hu : P.underlying ty = some (.array n e)) (hi : (P.info? ty).map (·.size) = some xs.length)
    (h : wpList P ops Q rest (a.put op.dst (.agg (xs.map U).toArray)) w) : wpList P ops Q (op :: rest) a w :=
  wpList_load_row hgd ty x ho g hx t _ (0, 0) (.array n e) hg hu rfl (by rw [hi]; simp) h
theorem st_arrU {P : Program} {ops : Array Oper} {rest : List Oper} {op : Oper} {a : Act} {w : World} {Q : Exit → Act → World → Prop} (hgd : op.guard = none) (ty : TypeId) (x y : Operand) (ho : op.op = .store ty x y)
    (g : Nat) (xs : List UInt32) (hx : a.eval x = .pointer (some ⟨g, 0, none⟩)) (hy : a.eval y = .agg (xs.map U).toArray) (t : TypeId) (old : List UInt32) (hg : ArrU w g t old) (hi : (P.info? ty).map (·.size) = some xs.length) (hl : old.length = xs.length)
    (h : ∀ w', ArrU w' g t xs → Only (· = g) w w' → wpList P ops Q rest (a.put op.dst undef) w') : wpList P ops Q (op :: rest) a w :=
  wpList_store_row hgd ty x y ho g _ hx hy t _ hg (by rw [hi]; simp) (by simpa using hl) (arr_ones xs) (h _ (hg.setRow xs) (only_setRow w g _))

/-- A byte is put into its word. -/
def put8 (b : List UInt8) (xs : List UInt32) (i : Nat) : List UInt32 := xs.set (i / 4) (shl32 (xs.getD (i / 4) 0) 8 ||| (b.getD i 0).toUInt32)
def words (b : List UInt8) : Nat → List UInt32
  | 0 => List.replicate 64 0
  | i + 1 => put8 b (words b i) i
theorem words_len (b : List UInt8) (i : Nat) : (words b i).length = 64 := by
  induction i with
  | zero => simp [words]
  | succ i ih => simp only [words, put8, List.length_set, ih]
/-- A word that follows. -/
def nextW (a b c d : UInt32) : UInt32 := a + b + (rotr c 7 ^^^ rotr c 18 ^^^ shr32 c 3) + (rotr d 17 ^^^ rotr d 19 ^^^ shr32 d 10)
def sch (xs : List UInt32) (i : Nat) : List UInt32 := xs.set i (nextW (xs.getD (i - 16) 0) (xs.getD (i - 7) 0) (xs.getD (i - 15) 0) (xs.getD (i - 2) 0))
def schedK (b : List UInt8) : Nat → List UInt32
  | 0 => words b 64
  | k + 1 => sch (schedK b k) (16 + k)
theorem schedK_len (b : List UInt8) (i : Nat) : (schedK b i).length = 64 := by
  induction i with
  | zero => exact words_len b 64
  | succ i ih => simp only [schedK, sch, List.length_set, ih]
def sched (b : List UInt8) : List UInt32 := schedK b 48

theorem cvB32 (x : UInt8) (w : World) : (convert 5 142 (.int .u8 (x.toNat : Int))).run Try.prog w = .ok (U x.toUInt32) w := by
  have hk : Try.prog.intKind 142 = .u32 := by kernel_rfl
  have h2 := run_convert_int (P := Try.prog) (w := w) 5 142 .u8 (x.toNat : Int) (by rw [Try.underlying5]; rfl) (by rw [hk]; exact Try.underlying142)
  have h : IntKind.u32.wrap (x.toNat : Int) = (x.toUInt32.toNat : Int) := by
    have h8 := x.toNat_lt
    rw [wrap_u32, UInt8.toNat_toUInt32, Nat.mod_eq_of_lt (by omega)]
  rw [hk, h] at h2
  exact h2

theorem rotr_k (x : UInt32) (k : Int) (n : Nat) (w : World) (hk : k = (n : Int)) (h : 1 ≤ n ∧ n ≤ 31) : Calls Try.prog 118 #[U x, .int .i64 k] w fun e w' => e = .returned (U (rotr x n)) ∧ w' = w := by
  subst hk
  exact (rotr_c x n w h).mono fun _ _ h => ⟨h.1, h.2.symm⟩
theorem below_drewN' {B : Nat} {a w : World} (h : Below B a w) (n : Nat) : Below B a (w.drewN n) := h.trans ⟨rfl, rfl, rfl, Nat.le_refl _, fun _ _ => rfl⟩
theorem Try.infoA64 : (Try.prog.info? 147).map (·.size) = some 64 := by kernel_rfl
def SpRel (w : World) (b : List UInt8) (v12 : Value) (wr : World) : Prop := ∃ i : Nat, v12 = .int .i64 (i : Int) ∧ i ≤ 64 ∧ ArrU wr (w.heap.size + 1) 147 (words b i) ∧ ArrU wr w.heap.size 147 (List.replicate 64 0) ∧ Below w.heap.size w wr
def SpRel2 (w : World) (b : List UInt8) (v6 : Value) (wr : World) : Prop := ∃ i : Nat, v6 = .int .i64 (16 + (i : Int)) ∧ i ≤ 48 ∧ ArrU wr (w.heap.size + 1) 147 (schedK b i) ∧ ArrU wr w.heap.size 147 (List.replicate 64 0) ∧ Below w.heap.size w wr
def SpR (w : World) (b : List UInt8) (e : Ending) (w' : World) : Prop := e = .returned (.agg ((sched b).map U).toArray) ∧ Below w.heap.size w w'

set_option maxHeartbeats 4000000 in
theorem spread_c (S : Nat → Prop) (p : Option Addr) (n c : Nat) (b : List UInt8) (w : World) (hR : Rd w S p b) (hn : b.length = n) (h64 : 64 ≤ n) (hc : n ≤ c) :
    Calls Try.prog 117 #[.slice p n c] w (SpR w b) := by
  subst hn
  have cv := cvB32
  obtain ⟨g, o, rfl, hS, hgl, hcell⟩ := hR.at (by omega)
  have HC := Lib.hid hcell
  clear hcell hR
  have hA : ∀ W, W = (w.alloc (.cells ((List.replicate 64 (0 : UInt32)).map U).toArray 147)).alloc (.cells ((List.replicate 64 (0 : UInt32)).map U).toArray 147) → SpRel w b (.int .i64 0) W := by
    rintro W rfl
    refine ⟨0, rfl, by omega, ?_, (ArrU.new w _ _).below ((Below.refl _ _).alloc (Nat.le_refl _) _), ((Below.refl _ _).alloc (Nat.le_refl _) _).alloc (by simp) _⟩
    have := ArrU.new (w.alloc (.cells ((List.replicate 64 (0 : UInt32)).map U).toArray 147)) 147 (List.replicate 64 0)
    simpa only [World.size_alloc, words] using this
  have HA := Lib.hid hA
  clear hA
  have hb64 : 64 ≤ (b.length : Int) := by omega
  go_enter Try.func117, Try.ntmps117
  go_wp2
  go_loopw [12] (fun v12 wr => SpRel w b v12 wr) (fun v12 _ => (64 - intOf v12).toNat)
  case atStart => exact HA.out _ rfl
  case round =>
    obtain ⟨i, rfl, hi, hA1, hA0, hB⟩ := hrel
    have HB := Lib.hid (And.intro hA1 (And.intro hA0 hB))
    by_cases hlt : i < 64
    · have hl := words_len b i
      have hq : i / 4 < 64 := by omega
      have c1 := hA1.c (i / 4) (by rw [hl]; exact hq)
      have f1 := hA1.fr (i / 4)
      have hgw : g < w.heap.size := hgl
      have hcb := (hB.cell (p := ⟨g, o + i, none⟩) hgl).trans (HC.out i (by omega))
      obtain ⟨B, hBd⟩ : ∃ B : UInt8, B = b[i]'(by omega) := ⟨_, rfl⟩
      rw [← hBd] at hcb
      obtain ⟨X, hX⟩ : ∃ X, X = (words b i)[i / 4]'(by rw [hl]; exact hq) := ⟨_, rfl⟩
      rw [← hX] at c1
      have hst : words b (i + 1) = (words b i).set (i / 4) (shl32 X 8 ||| B.toUInt32) := by
        show put8 b (words b i) i = _
        unfold put8
        rw [hX, hBd]
        simp only [List.getD_eq_getElem?_getD, List.getElem?_eq_getElem (by rw [hl]; exact hq : i / 4 < (words b i).length), List.getElem?_eq_getElem (by omega : i < b.length), Option.getD_some]
      have HST := Lib.hid hst
      have hti : ((i : Int) / 4).toNat = i / 4 := by omega
      have hlI : (i : Int) < 64 := by omega
      clear hst hBd hX hl hA1 hA0 hB
      go_wp2
      refine ⟨⟨i + 1, by simp, by omega, by rw [HST.out]; exact HB.out.1.set _ _, HB.out.2.1.only ((Only.refl (fun k => k = w.heap.size + 1) wr).setCell _ _ (.inl rfl)) (by omega), HB.out.2.2.setCell (by simp) _⟩, by simp [intOf]; omega⟩
    · have h64i : i = 64 := by omega
      have hge : ¬ (i : Int) < 64 := by omega
      rw [h64i] at hA1
      clear hlt hi h64i HB
      go_wp2
      clear hge
      clear HA
      go_loopw [6] (fun v6 wr => SpRel2 w b v6 wr) (fun v6 _ => (64 - intOf v6).toNat)
      case atStart => exact ⟨0, rfl, by omega, hA1, hA0, hB⟩
      case round =>
        clear hA1 hA0 hB
        obtain ⟨i, rfl, hi, hA1, hA0, hB⟩ := hrel
        have HB := Lib.hid (And.intro hA1 (And.intro hA0 hB))
        by_cases hlt : i < 48
        · have hl := schedK_len b i
          have c1 := hA1.c i (by omega)
          have c2 := hA1.c (i + 9) (by omega)
          have c3 := hA1.c (i + 1) (by omega)
          have c4 := hA1.c (i + 14) (by omega)
          have f1 := hA1.fr (16 + i)
          have c5 := hA1.c (16 + i) (by omega)
          obtain ⟨x1, h1⟩ : ∃ x, x = (schedK b i)[i]'(by omega) := ⟨_, rfl⟩
          obtain ⟨x2, h2⟩ : ∃ x, x = (schedK b i)[i + 9]'(by omega) := ⟨_, rfl⟩
          obtain ⟨x3, h3⟩ : ∃ x, x = (schedK b i)[i + 1]'(by omega) := ⟨_, rfl⟩
          obtain ⟨x4, h4⟩ : ∃ x, x = (schedK b i)[i + 14]'(by omega) := ⟨_, rfl⟩
          obtain ⟨x5, h5⟩ : ∃ x, x = (schedK b i)[16 + i]'(by omega) := ⟨_, rfl⟩
          rw [← h1] at c1
          rw [← h2] at c2
          rw [← h3] at c3
          rw [← h4] at c4
          rw [← h5] at c5
          have hst : schedK b (i + 1) = (schedK b i).set (16 + i) (nextW x1 x2 x3 x4) := by
            show sch (schedK b i) (16 + i) = _
            unfold sch
            rw [show 16 + i - 16 = i by omega, show 16 + i - 7 = i + 9 by omega, show 16 + i - 15 = i + 1 by omega, show 16 + i - 2 = i + 14 by omega, h1, h2, h3, h4]
            simp only [List.getD_eq_getElem?_getD, List.getElem?_eq_getElem (by omega : i < (schedK b i).length), List.getElem?_eq_getElem (by omega : i + 9 < (schedK b i).length), List.getElem?_eq_getElem (by omega : i + 1 < (schedK b i).length), List.getElem?_eq_getElem (by omega : i + 14 < (schedK b i).length), Option.getD_some]
          have HST := Lib.hid hst
          have hlI : 16 + (i : Int) < 64 := by omega
          have t1 : (16 + (i : Int) - 16).toNat = i := by omega
          have t2 : (16 + (i : Int) - 7).toNat = i + 9 := by omega
          have t3 : (16 + (i : Int) - 15).toNat = i + 1 := by omega
          have t4 : (16 + (i : Int) - 2).toNat = i + 14 := by omega
          have t5 : (16 + (i : Int)).toNat = 16 + i := by omega
          clear hst h1 h2 h3 h4 h5 hl hA1 hA0 hB
          go_upto_region 10 with (fail)
          go_quiet (fail)
          go_upto_region 11 with (fail)
          have s1 : IntKind.i64.wrap (16 + (i : Int) - 16) = (i : Int) := by rw [IntWalk.i64_in _ ⟨by omega, by omega⟩]; omega
          have s2 : IntKind.i64.wrap (16 + (i : Int) - 7) = (i : Int) + 9 := by rw [IntWalk.i64_in _ ⟨by omega, by omega⟩]; omega
          have b1 : (0 : Int) ≤ (i : Int) := by omega
          have b2 : (0 : Int) ≤ (i : Int) + 9 := by omega
          have b3 : (i : Int) < 64 := by omega
          have b4 : (i : Int) + 9 < 64 := by omega
          have b5 : ((i : Int) + 9).toNat = i + 9 := by omega
          have b6 : (0 : Int) ≤ 16 + (i : Int) := by omega
          have n1 : (⟨w.heap.size + 1, 16 + i, none⟩ : Addr) ≠ ⟨w.heap.size + 1, i, none⟩ := by intro h; injection h with _ h _; omega
          have n2 : (⟨w.heap.size + 1, 16 + i, none⟩ : Addr) ≠ ⟨w.heap.size + 1, i + 9, none⟩ := by intro h; injection h with _ h _; omega
          go_region_held3 (fun w' => w'.cell? ⟨w.heap.size + 1, i, none⟩ = some (U x1) ∧ w'.cell? ⟨w.heap.size + 1, i + 9, none⟩ = some (U x2)) (first | exact ⟨c1, c2⟩ | exact ⟨(World.cell?_setCell_other _ _ _ _ n1).trans c1, (World.cell?_setCell_other _ _ _ _ n2).trans c2⟩) ((go_at_call 118; (first | (with_reducible refine (rotr_k _ 7 7 _ rfl (by omega)).mono ?_) | (with_reducible refine (rotr_k _ 18 18 _ rfl (by omega)).mono ?_) | (with_reducible refine (rotr_k _ 17 17 _ rfl (by omega)).mono ?_) | (with_reducible refine (rotr_k _ 19 19 _ rfl (by omega)).mono ?_)); rintro e w' ⟨rfl, rfl⟩))
          all_goals go_wp2
          clear s1 s2
          refine ⟨⟨i + 1, by congr 1, by omega, ?_, ?_, ?_⟩, by simp [intOf]; omega⟩
          · rw [HST.out]
            exact (HB.out.1.only (Only.drewN _ (Only.refl (fun _ => False) _)) (fun h => h)).set _ _
          · exact HB.out.2.1.only ((Only.drewN _ (Only.refl (fun k => k = w.heap.size + 1) wr)).setCell _ _ (.inl rfl)) (by omega)
          · exact (below_drewN' HB.out.2.2 _).setCell (by simp) _
        · obtain rfl : i = 48 := by omega
          have hi2 : ¬ (16 : Int) + 48 < 64 := by omega
          go_upto_region 12 with (fail)
          go_wp2_with (first
            | (refine ld_arrU rfl 147 _ rfl _ rfl _ _ HB.out.1 _ _ Try.underlying147 (by rw [schedK_len]; exact Try.infoA64) ?_)
            | (refine st_arrU rfl 147 _ _ rfl w.heap.size (schedK b 48) rfl rfl _ _ HB.out.2.1 (by rw [schedK_len]; exact Try.infoA64) (by rw [schedK_len]; simp) ?_; intro w5 hA5 hO5))
          refine bodyPost_ret (v := .agg ((schedK b 48).map U).toArray) (results_cell_row (P := Try.prog) Try.results117 _ _ w.heap.size _ _ _ _ rfl hA5 Try.underlying147 rfl (by rw [Try.infoA64]; simp [schedK_len])) rfl (And.intro rfl ?_)
          exact below_only HB.out.2.2 HB.out.2.2.size hO5 (by intro k hk e; omega)
end Go.Proofs.Ytegmimnhkohaoaa
