/-
  The contracts of hello.retry and relayref08.Retry: one number, told by both. No condition.
-/
import Derived.Test.YtegmimnhkohaoaaZRSum
import Derived.Test.YtegmimnhkohaoaaZg1
import Derived.Test.YtegmimnhkohaoaaZg2
import Derived.Deep.MidRow
import Derived.Stop.BytesEq
import Derived.WalkKit
import Derived.ProofKit
import Derived.Maps.OwnOps
import Derived.Maps.Views
import Derived.WalkArith
import Derived.Deep.LoopGhost
namespace Go.Proofs.Ytegmimnhkohaoaa
open Go.RowKit Go.Kx
set_option linter.unusedVariables false
set_option linter.unusedSimpArgs false

def retryText : List UInt8 := [72, 101, 108, 108, 111, 82, 101, 116, 114, 121, 82, 101, 113, 117, 101, 115, 116]
/-- The random number of a retry. -/
def retryL : List UInt8 := sumL retryText
theorem retryL_len : retryL.length = 32 := sumL_len _
theorem retryL_ne : retryL ≠ List.replicate 32 0 := by decide +kernel

theorem Arr.conv (w : World) (o : Obj) (C : Array Value) : (convert 23 23 (.slice (some ⟨w.heap.size + 1, 0, none⟩) 17 17)).run Try.prog ((w.alloc o).alloc (.cells C 5)) = .ok (.slice (some ⟨w.heap.size + 1, 0, none⟩) 17 17) ((w.alloc o).alloc (.cells C 5 (C.size, C.size + 1))) := by
  have h := Lib.run_convert_bytes_const (P := Try.prog) (w.alloc o) 23 5 C 17 17 Try.underlying23 Try.underlying5
  simpa only [World.size_alloc] using h
theorem retry_rd (w : World) (o : Obj) (m : Nat × Nat) : Rd ((w.alloc o).alloc (.cells (retryText.map B8).toArray 5 m)) (fun _ => True) (some ⟨w.heap.size + 1, 0, none⟩) retryText := by
  have h := Rd.litm (w.alloc o) retryText m
  rw [World.size_alloc] at h
  exact h.mono (fun _ _ _ => trivial)

set_option maxRecDepth 100000 in
set_option maxHeartbeats 4000000 in
theorem retry_c (w : World) : Calls Try.prog 29 #[] w (SumR w retryL) := by
  have hcv := Arr.conv w
  have hz : ∀ m, ArrB ((w.alloc (.cells ((List.replicate 32 (0 : UInt8)).map B8).toArray 22)).alloc (.cells (retryText.map B8).toArray 5 m)) w.heap.size 22 (List.replicate 32 0) := fun m => (ArrB.new w _ _).below ((Below.refl _ _).alloc (Nat.le_refl _) _)
  have hB : ∀ m, Below w.heap.size w ((w.alloc (.cells ((List.replicate 32 (0 : UInt8)).map B8).toArray 22)).alloc (.cells (retryText.map B8).toArray 5 m)) := fun m => (((Below.refl _ _).alloc (Nat.le_refl _) _)).alloc (by simp) _
  have hrr := fun o m => retry_rd w o m
  have HZ := Lib.hid (And.intro hz (And.intro hB hrr))
  clear hz hB hrr
  go_enter Try.func29, Try.ntmps29
  go_upto_region 1 with (fail)
  go_wp2_with (first
    | (go_at_call 66; refine (sum_c (fun _ => True) _ 17 17 retryText _ (HZ.out.2.2 _ _) (by intro h; cases h) (by decide) rfl).mono ?_; rintro e w1 ⟨rfl, b1⟩; have A1 := (HZ.out.1 _).below b1; have HA1 := Lib.hid A1; have HB1 := Lib.hid b1; have L1 := A1.lt; clear A1 b1)
    | (refine st_arrB rfl 22 (.tmp 0) _ rfl w.heap.size retryL rfl rfl _ _ HA1.out (by rw [retryL_len]; exact Try.infoB32) (by rw [retryL_len]; rfl) ?_; intro w7 hA7 hO7))
  refine bodyPost_ret (v := .agg (retryL.map B8).toArray) (results_cell_row (P := Try.prog) Try.results29 _ _ w.heap.size _ _ _ _ rfl hA7 Try.underlying22 rfl (by rw [Try.infoB32]; simp [retryL_len])) rfl (And.intro rfl ?_)
  have h2 := (HZ.out.2.1 _).trans (HB1.out.mono (by simp; omega))
  exact below_only h2 h2.size hO7 (by intro k hk e; omega)

set_option maxRecDepth 100000 in
set_option maxHeartbeats 4000000 in
theorem rretry_c (w : World) : Calls Try.prog 37 #[] w (SumR w retryL) := by
  have hcv := Arr.conv w
  have hz : ∀ m, ArrB ((w.alloc (.cells ((List.replicate 32 (0 : UInt8)).map B8).toArray 22)).alloc (.cells (retryText.map B8).toArray 5 m)) w.heap.size 22 (List.replicate 32 0) := fun m => (ArrB.new w _ _).below ((Below.refl _ _).alloc (Nat.le_refl _) _)
  have hB : ∀ m, Below w.heap.size w ((w.alloc (.cells ((List.replicate 32 (0 : UInt8)).map B8).toArray 22)).alloc (.cells (retryText.map B8).toArray 5 m)) := fun m => (((Below.refl _ _).alloc (Nat.le_refl _) _)).alloc (by simp) _
  have hrr := fun o m => retry_rd w o m
  have HZ := Lib.hid (And.intro hz (And.intro hB hrr))
  clear hz hB hrr
  go_enter Try.func37, Try.ntmps37
  go_upto_region 1 with (fail)
  go_wp2_with (first
    | (go_at_call 75; refine (rsum_c (fun _ => True) _ 17 17 retryText _ (HZ.out.2.2 _ _) (by intro h; cases h) (by decide) rfl).mono ?_; rintro e w1 ⟨rfl, b1⟩; have A1 := (HZ.out.1 _).below b1; have HA1 := Lib.hid A1; have HB1 := Lib.hid b1; have L1 := A1.lt; clear A1 b1)
    | (refine st_arrB rfl 22 (.tmp 0) _ rfl w.heap.size retryL rfl rfl _ _ HA1.out (by rw [retryL_len]; exact Try.infoB32) (by rw [retryL_len]; rfl) ?_; intro w7 hA7 hO7))
  refine bodyPost_ret (v := .agg (retryL.map B8).toArray) (results_cell_row (P := Try.prog) Try.results37 _ _ w.heap.size _ _ _ _ rfl hA7 Try.underlying22 rfl (by rw [Try.infoB32]; simp [retryL_len])) rfl (And.intro rfl ?_)
  have h2 := (HZ.out.2.1 _).trans (HB1.out.mono (by simp; omega))
  exact below_only h2 h2.size hO7 (by intro k hk e; omega)
end Go.Proofs.Ytegmimnhkohaoaa
/-
  A Server (of hello or of the document) by value and in a block; arrays of 32 bytes compared; what the greeting's closures put. No condition but those that each theorem states.
-/
namespace Go.Kx
open Go.RowKit
theorem wpList_load_any {P : Program} {ops : Array Oper} {rest : List Oper} {op : Oper} {a : Act} {w : World} {Q : Exit → Act → World → Prop} (hw : Region.wanted op (yielded ops a.tmps) = true) (ty : TypeId) (x : Operand) (ho : op.op = .load ty x)
    (b o : Nat) (hx : a.eval x = .pointer (some ⟨b, o, none⟩)) (cs : List Value) (d : TypeDesc) (hc : w.rangeAt b o cs) (hu : P.underlying ty = some d) (hd : d.isRow = true) (hi : (P.info? ty).map (·.size) = some cs.length)
    (h : wpList P ops Q rest (a.put op.dst (.agg cs.toArray)) w) : wpList P ops Q (op :: rest) a w :=
  wpList_step fun _ hK => by rw [if_pos hw]; exact wp_load_mid ty x ho b o hx cs d hc hu hd hi (hK _ _ h)
theorem step_load_mid {P : Program} {ops : Array Oper} {w : World} {o : Oper} {a : Act} {K : Act → World → Prop} {Q : Exit → Act → World → Prop} {E : Prop} (hgd : o.guard = none) (ty : TypeId) (x : Operand) (ho : o.op = .load ty x)
    (b k : Nat) (hx : a.eval x = .pointer (some ⟨b, k, none⟩)) (cs : List Value) (d : TypeDesc) (hc : w.rangeAt b k cs) (hu : P.underlying ty = some d) (hd : d.isRow = true) (hi : (P.info? ty).map (·.size) = some cs.length)
    (h : K (a.put o.dst (.agg cs.toArray)) w) : if Region.wanted o (yielded ops a.tmps) = true then Oper.wp P o a w K Q else E := by
  rw [if_pos (by simp [Region.wanted, hgd])]
  exact wp_load_mid ty x ho b k hx cs d hc hu hd hi h
end Go.Kx
namespace Go.Proofs.Ytegmimnhkohaoaa
open Go.RowKit Go.Kx
set_option linter.unusedVariables false
set_option linter.unusedSimpArgs false

/-- What a Server tells. -/
structure Sv where
  R : List UInt8
  ses : List UInt8
  suite : Int
  ver : Int
  grp : Int
  key : List UInt8
  retry : Bool
  cook : List UInt8
  psk : Int
def svC (s : Sv) (a b c : Value) : Array Value := (s.R.map B8 ++ [a, .int .i64 s.suite, .int .i64 s.ver, .int .i64 s.grp, b, .bool s.retry, c, .int .i64 s.psk]).toArray
/-- A slice of bytes below M. -/
def Sl (w : World) (M : Nat) (p : Option Addr) (n c : Nat) (l : List UInt8) : Prop := l.length = n ∧ Rd w (· < M) p l ∧ (p = none → c = 0)
theorem Sl.below {w w' : World} {M : Nat} {p : Option Addr} {n c : Nat} {l : List UInt8} (h : Sl w M p n c l) (hb : Below w.heap.size w w') : Sl w' M p n c l := ⟨h.1, h.2.1.below hb, h.2.2⟩
theorem Sl.only {w w' : World} {M : Nat} {q : Nat → Prop} {p : Option Addr} {n c : Nat} {l : List UInt8} (h : Sl w M p n c l) (ho : Only q w w') (hq : ∀ k, k < M → ¬ q k) : Sl w' M p n c l := ⟨h.1, h.2.1.only ho hq, h.2.2⟩
theorem Sl.mono {w : World} {M N : Nat} {p : Option Addr} {n c : Nat} {l : List UInt8} (h : Sl w M p n c l) (hb : M ≤ N) : Sl w N p n c l := ⟨h.1, h.2.1.mono (fun k _ hk => by omega), h.2.2⟩

/-- Its three slices as a bundle. -/
structure S3 where
  p1 : Option Addr
  n1 : Nat
  c1 : Nat
  p2 : Option Addr
  n2 : Nat
  c2 : Nat
  p3 : Option Addr
  n3 : Nat
  c3 : Nat
/-- The cells. -/
def svV (s : Sv) (z : S3) : Array Value := svC s (.slice z.p1 z.n1 z.c1) (.slice z.p2 z.n2 z.c2) (.slice z.p3 z.n3 z.c3)
structure IsSv (w : World) (M : Nat) (s : Sv) (z : S3) : Prop where
  len : s.R.length = 32
  s1 : Sl w M z.p1 z.n1 z.c1 s.ses
  s2 : Sl w M z.p2 z.n2 z.c2 s.key
  s3 : Sl w M z.p3 z.n3 z.c3 s.cook
theorem IsSv.below {w w' : World} {M : Nat} {s : Sv} {z : S3} (h : IsSv w M s z) (hb : Below w.heap.size w w') : IsSv w' M s z := ⟨h.len, h.s1.below hb, h.s2.below hb, h.s3.below hb⟩
theorem IsSv.only {w w' : World} {M : Nat} {q : Nat → Prop} {s : Sv} {z : S3} (h : IsSv w M s z) (hb : Only q w w') (hq : ∀ k, k < M → ¬ q k) : IsSv w' M s z := ⟨h.len, h.s1.only hb hq, h.s2.only hb hq, h.s3.only hb hq⟩
theorem svV_size {w : World} {M : Nat} {s : Sv} {z : S3} (h : IsSv w M s z) : (svV s z).size = 40 := by simp [svV, svC, h.len]
theorem svV_get {w : World} {M : Nat} {s : Sv} {z : S3} (h : IsSv w M s z) (k : Nat) : (svV s z)[32 + k]? = [.slice z.p1 z.n1 z.c1, .int .i64 s.suite, .int .i64 s.ver, .int .i64 s.grp, .slice z.p2 z.n2 z.c2, .bool s.retry, .slice z.p3 z.n3 z.c3, .int .i64 s.psk][k]? := by
  unfold svV svC
  rw [List.getElem?_toArray, List.getElem?_append_right (by simp [h.len])]
  simp [h.len]
theorem svV_rnd {w : World} {M : Nat} {s : Sv} {z : S3} (h : IsSv w M s z) (k : Nat) (hk : k < 32) : (svV s z)[k]? = some (B8 (s.R[k]'(by rw [h.len]; exact hk))) := by
  unfold svV svC
  rw [List.getElem?_toArray, List.getElem?_append_left (by simp [h.len]; exact hk)]
  simp [h.len, hk]

/-- A block that is a Server. -/
def Blk (w : World) (r t : Nat) (C : Array Value) : Prop := w.heap[r]? = some (.cells C t (0, 0))
theorem Blk.lt {w : World} {r t : Nat} {C : Array Value} (h : Blk w r t C) : r < w.heap.size := (Array.getElem?_eq_some_iff.1 h).1
theorem Blk.below {w w' : World} {r t : Nat} {C : Array Value} (h : Blk w r t C) (hb : Below w.heap.size w w') : Blk w' r t C := (hb.block r h.lt).trans h
theorem Blk.only {w w' : World} {q : Nat → Prop} {r t : Nat} {C : Array Value} (h : Blk w r t C) (hb : Only q w w') (hq : ¬ q r) : Blk w' r t C := (hb.block r h.lt hq).trans h
theorem Blk.new (w : World) (t : Nat) (C : Array Value) : Blk (w.alloc (.cells C t)) w.heap.size t C := heap_alloc_new w _
theorem Blk.c {w : World} {r t : Nat} {C : Array Value} (h : Blk w r t C) (o : Nat) : w.cell? ⟨r, o, none⟩ = C[o]? := by unfold Blk at h; simp [World.cell?, h]
theorem Blk.fr {w : World} {r t : Nat} {C : Array Value} (h : Blk w r t C) (o : Nat) : w.frozen? ⟨r, o, none⟩ = false := by unfold Blk at h; simp [World.frozen?, h]
theorem Blk.range {w : World} {r t : Nat} {C : Array Value} (h : Blk w r t C) : w.rangeAt r 0 C.toList := by
  intro j v hv
  rw [h.c, Nat.zero_add]
  simpa using hv
section
variable {w w' : World} {M r t : Nat} {s : Sv} {z : S3}
theorem Blk.c32 (h : Blk w r t (svV s z)) (i : IsSv w' M s z) : w.cell? ⟨r, 32, none⟩ = some (.slice z.p1 z.n1 z.c1) := (h.c 32).trans (svV_get i 0)
theorem Blk.c33 (h : Blk w r t (svV s z)) (i : IsSv w' M s z) : w.cell? ⟨r, 33, none⟩ = some (.int .i64 s.suite) := (h.c 33).trans (svV_get i 1)
theorem Blk.c34 (h : Blk w r t (svV s z)) (i : IsSv w' M s z) : w.cell? ⟨r, 34, none⟩ = some (.int .i64 s.ver) := (h.c 34).trans (svV_get i 2)
theorem Blk.c35 (h : Blk w r t (svV s z)) (i : IsSv w' M s z) : w.cell? ⟨r, 35, none⟩ = some (.int .i64 s.grp) := (h.c 35).trans (svV_get i 3)
theorem Blk.c36 (h : Blk w r t (svV s z)) (i : IsSv w' M s z) : w.cell? ⟨r, 36, none⟩ = some (.slice z.p2 z.n2 z.c2) := (h.c 36).trans (svV_get i 4)
theorem Blk.c37 (h : Blk w r t (svV s z)) (i : IsSv w' M s z) : w.cell? ⟨r, 37, none⟩ = some (.bool s.retry) := (h.c 37).trans (svV_get i 5)
theorem Blk.c38 (h : Blk w r t (svV s z)) (i : IsSv w' M s z) : w.cell? ⟨r, 38, none⟩ = some (.slice z.p3 z.n3 z.c3) := (h.c 38).trans (svV_get i 6)
theorem Blk.c39 (h : Blk w r t (svV s z)) (i : IsSv w' M s z) : w.cell? ⟨r, 39, none⟩ = some (.int .i64 s.psk) := (h.c 39).trans (svV_get i 7)
theorem Blk.rnd (h : Blk w r t (svV s z)) (i : IsSv w' M s z) : w.rangeAt r 0 (s.R.map B8) := by
  intro j v hv
  simp only [List.getElem?_map, Option.map_eq_some_iff] at hv
  obtain ⟨x, hx, rfl⟩ := hv
  obtain ⟨hj, rfl⟩ := List.getElem?_eq_some_iff.1 hx
  rw [h.c, Nat.zero_add]
  exact svV_rnd i j (by rw [← i.len]; exact hj)
end
theorem Try.infoSv : (Try.prog.info? 33).map (·.size) = some 40 := by kernel_rfl
theorem Try.infoRv : (Try.prog.info? 27).map (·.size) = some 40 := by kernel_rfl

/-! ### Arrays of 32 bytes -/
theorem run_sizeOf1 (w : World) : (sizeOf 5).run Try.prog w = .ok 1 w := by
  have h : (Try.prog.info? 5).map (·.size) = some 1 := by kernel_rfl
  cases hq : Try.prog.info? 5 with
  | none => simp [hq] at h
  | some i =>
    have h2 : i.size = 1 := by simpa [hq] using h
    simp [sizeOf, typeInfo, hq, h2]
theorem Try.guard32 : Try.prog.eqGuardType Try.prog.depth 22 = false := by kernel_rfl
theorem run_eq32 (w : World) (d : Nat) (A B : List UInt8) (hA : A.length = 32) (hB : B.length = 32) : (Op.equalIn (d + 2) 22 (.agg (A.map B8).toArray) (.agg (B.map B8).toArray)).run Try.prog w = .ok (A == B) w :=
  run_equalIn_bytes w d 22 5 32 Try.underlying22 Try.underlying5 run_sizeOf1 A B hA hB

/-! ### What goes together -/
theorem beq_cast (n : Nat) : ((n : Int) == 0) = decide (n = 0) := by by_cases h : n = 0 <;> simp [h]
def fitsS (s : Sv) : Bool := if s.retry then (decide (s.key.length = 0) && decide (s.psk = -1)) && (decide (s.grp ≠ 0) || decide (0 < s.cook.length)) else if s.R = retryL then false else (decide (s.cook.length = 0) && decide (-1 ≤ s.psk)) && (decide (s.grp ≠ 0) || decide (s.key.length = 0))

def BoolR (w : World) (b : Bool) (e : Ending) (w' : World) : Prop := e = .returned (.bool b) ∧ Below w.heap.size w w'
set_option maxHeartbeats 4000000 in
set_option maxRecDepth 100000 in
theorem fits_c (s : Sv) (z : S3) (M : Nat) (w : World) (h : IsSv w M s z) : Calls Try.prog 28 #[.agg (svV s z)] w (BoolR w (fitsS s)) := by
  have hB := Blk.new w 33 (svV s z)
  have hb0 : Below w.heap.size w (w.alloc (.cells (svV s z) 33)) := (Below.refl _ _).alloc (Nat.le_refl _) _
  have c35 := hB.c35 h
  have c36 := hB.c36 h
  have c37 := hB.c37 h
  have c38 := hB.c38 h
  have c39 := hB.c39 h
  have l2 := h.s2.1
  have l3 := h.s3.1
  have HB := Lib.hid (And.intro hB (And.intro hb0 h))
  obtain ⟨re, hre⟩ : ∃ re, re = s.retry := ⟨_, rfl⟩
  obtain ⟨bf, hbf⟩ : ∃ bf, bf = fitsS s := ⟨_, rfl⟩
  rw [← hre] at c37
  rw [← hbf]
  unfold fitsS at hbf
  rw [l2, l3, ← hre] at hbf
  have HBF := Lib.hid hbf
  clear hB hb0 h hbf hre
  cases re
  · go_enter Try.func28, Try.ntmps28
    go_upto_region 3 with (fail)
    have hs := fun w => run_eq32 w 9998 s.R retryL HB.out.2.2.len retryL_len
    have hg := Try.guard32
    obtain ⟨wq, hwq⟩ : ∃ wq, wq = w.alloc (.cells (svV s z) 33) := ⟨_, rfl⟩
    rw [← hwq]
    rw [← hwq] at c35 c36 c37 c38 c39 HB
    have HQ := Lib.hid hwq
    clear hwq
    have hI0 : Blk wq w.heap.size 33 (svV s z) ∧ Below w.heap.size w wq := ⟨HB.out.1, HB.out.2.1⟩
    have hI : Blk wq.drew w.heap.size 33 (svV s z) ∧ Below w.heap.size w wq.drew := ⟨HB.out.1, HB.out.2.1.drew⟩
    go_cut [28] (fun v28 wx => v28 = .bool (s.R == retryL) ∧ Blk wx w.heap.size 33 (svV s z) ∧ Below w.heap.size w wx)
    case first =>
      have hu := Try.underlying22
      have hi : (Try.prog.info? 22).map (·.size) = some (s.R.map B8).length := by rw [List.length_map, HB.out.2.2.len]; exact Try.infoB32
      go_region_held3 (fun w' => w'.rangeAt w.heap.size 0 (s.R.map B8)) (first | exact hI.1.rnd HB.out.2.2 | exact hI0.1.rnd HB.out.2.2) (first
        | (go_at_call 29; refine (retry_c _).mono ?_; rintro e w1 ⟨rfl, b1⟩; have hI2 : Blk w1 w.heap.size 33 (svV s z) ∧ Below w.heap.size w w1 := ⟨hI.1.below b1, hI.2.trans (b1.mono hI.2.size)⟩; clear hI; have hI := hI2; clear hI2))
      all_goals go_wp2
      all_goals go_meet
      all_goals exact ⟨rfl, hI⟩
    case rest =>
      obtain ⟨rfl, hI2⟩ := hcut
      have d35 := hI2.1.c35 HB.out.2.2
      have d36 := hI2.1.c36 HB.out.2.2
      have d38 := hI2.1.c38 HB.out.2.2
      have d39 := hI2.1.c39 HB.out.2.2
      clear hI hI0 c35 c36 c37 c38 c39 hs hg
      have HI := Lib.hid hI2
      clear hI2
      by_cases hR : s.R = retryL
      · have hb : (s.R == retryL) = true := by simpa using hR
        have HR := Lib.hid hR
        clear hR
        go_wp2
        all_goals go_ret
        all_goals (refine ⟨congrArg Ending.returned (congrArg Value.bool ?_), HI.out.2⟩)
        all_goals (have hx := HBF.out; have hr := HR.out; clear d35 d36 d38 d39 HB HBF l2 l3 HI HR; simp_all [beq_cast]; try (intros; omega))
      · have hb : (s.R == retryL) = false := by simpa using hR
        have HR := Lib.hid hR
        clear hR
        go_wp2
        all_goals go_ret
        all_goals (refine ⟨congrArg Ending.returned (congrArg Value.bool ?_), HI.out.2⟩)
        all_goals (have hx := HBF.out; have hr := HR.out; clear d35 d36 d38 d39 HB HBF l2 l3 HI HR; simp_all [beq_cast]; try (intros; omega))
  · go_enter Try.func28, Try.ntmps28
    go_wp2
    all_goals go_ret
    all_goals (refine ⟨congrArg Ending.returned (congrArg Value.bool ?_), HB.out.2.1⟩)
    all_goals (have hx := HBF.out; clear c35 c36 c37 c38 c39 HB HBF l2 l3; simp_all [beq_cast])
end Go.Proofs.Ytegmimnhkohaoaa
/-
  A Client (of hello or of the document) by value and in a block. No condition but those that each theorem states.
-/
namespace Go.Proofs.Ytegmimnhkohaoaa
open Go.RowKit Go.Kx
set_option linter.unusedVariables false
set_option linter.unusedSimpArgs false

/-- Groups and keys, side by side, from p on. -/
def ShAt (w : World) (S : Nat → Prop) (p : Option Addr) (l : List (Int × List UInt8)) : Prop := ∀ i (h : i < l.length), ∃ g o q m c, p = some ⟨g, o, none⟩ ∧ S g ∧ w.cell? ⟨g, o + i * 2, none⟩ = some (.int .i64 l[i].1) ∧ w.cell? ⟨g, o + i * 2 + 1, none⟩ = some (.slice q m c) ∧ l[i].2.length = m ∧ Rd w S q l[i].2 ∧ (q = none → c = 0)
theorem ShAt.only {w w' : World} {S q : Nat → Prop} {p : Option Addr} {l : List (Int × List UInt8)} (h : ShAt w S p l) (ho : Only q w w') (hq : ∀ k, S k → ¬ q k) : ShAt w' S p l := by
  intro i hi
  obtain ⟨g, o, a, m, c, rfl, hS, hc, hd, hl, hr, hn⟩ := h i hi
  exact ⟨g, o, a, m, c, rfl, hS, cell_kept ho (hq _ hS) hc, cell_kept ho (hq _ hS) hd, hl, hr.only ho hq, hn⟩
theorem ShAt.mono {w : World} {S T : Nat → Prop} {p : Option Addr} {l : List (Int × List UInt8)} (h : ShAt w S p l) (hT : ∀ k, k < w.heap.size → S k → T k) : ShAt w T p l := by
  intro i hi
  obtain ⟨g, o, a, m, c, rfl, hS, hc, hd, hl, hr, hn⟩ := h i hi
  exact ⟨g, o, a, m, c, rfl, hT _ (World.block_lt_of_cell? w _ hc) hS, hc, hd, hl, hr.mono hT, hn⟩

/-- What a Client tells. -/
structure Cl where
  R : List UInt8
  ses : List UInt8
  suites : List Int
  vers : List Int
  grps : List Int
  schs : List Int
  shs : List (Int × List UInt8)
  cook : List UInt8
  modes : List UInt8
  ids : List (List UInt8 × Int)
  bnd : List (List UInt8)
/-- Its ten slices. -/
structure Z10 where
  p1 : Option Addr
  n1 : Nat
  c1 : Nat
  p2 : Option Addr
  n2 : Nat
  c2 : Nat
  p3 : Option Addr
  n3 : Nat
  c3 : Nat
  p4 : Option Addr
  n4 : Nat
  c4 : Nat
  p5 : Option Addr
  n5 : Nat
  c5 : Nat
  p6 : Option Addr
  n6 : Nat
  c6 : Nat
  p7 : Option Addr
  n7 : Nat
  c7 : Nat
  p8 : Option Addr
  n8 : Nat
  c8 : Nat
  p9 : Option Addr
  n9 : Nat
  c9 : Nat
  p10 : Option Addr
  n10 : Nat
  c10 : Nat
def clL (z : Z10) : List Value := [.slice z.p1 z.n1 z.c1, .slice z.p2 z.n2 z.c2, .slice z.p3 z.n3 z.c3, .slice z.p4 z.n4 z.c4, .slice z.p5 z.n5 z.c5, .slice z.p6 z.n6 z.c6, .slice z.p7 z.n7 z.c7, .slice z.p8 z.n8 z.c8, .slice z.p9 z.n9 z.c9, .slice z.p10 z.n10 z.c10]
/-- The cells. -/
def clV (s : Cl) (z : Z10) : Array Value := (s.R.map B8 ++ clL z).toArray
/-- Its slices lie in blocks of S. -/
structure IsCl (w : World) (S : Nat → Prop) (s : Cl) (z : Z10) : Prop where
  len : s.R.length = 32
  s1 : s.ses.length = z.n1 ∧ Rd w S z.p1 s.ses ∧ (z.p1 = none → z.c1 = 0) ∧ z.n1 ≤ z.c1 ∧ z.c1 ≤ maxLen
  s2 : s.suites.length = z.n2 ∧ RdI w S z.p2 s.suites ∧ (z.p2 = none → z.c2 = 0) ∧ z.n2 ≤ z.c2 ∧ z.c2 ≤ maxLen
  s3 : s.vers.length = z.n3 ∧ RdI w S z.p3 s.vers ∧ (z.p3 = none → z.c3 = 0) ∧ z.n3 ≤ z.c3 ∧ z.c3 ≤ maxLen
  s4 : s.grps.length = z.n4 ∧ RdI w S z.p4 s.grps ∧ (z.p4 = none → z.c4 = 0) ∧ z.n4 ≤ z.c4 ∧ z.c4 ≤ maxLen
  s5 : s.schs.length = z.n5 ∧ RdI w S z.p5 s.schs ∧ (z.p5 = none → z.c5 = 0) ∧ z.n5 ≤ z.c5 ∧ z.c5 ≤ maxLen
  s6 : s.shs.length = z.n6 ∧ ShAt w S z.p6 s.shs ∧ (z.p6 = none → z.c6 = 0) ∧ z.n6 ≤ z.c6 ∧ z.c6 ≤ maxLen
  s7 : s.cook.length = z.n7 ∧ Rd w S z.p7 s.cook ∧ (z.p7 = none → z.c7 = 0) ∧ z.n7 ≤ z.c7 ∧ z.c7 ≤ maxLen
  s8 : s.modes.length = z.n8 ∧ Rd w S z.p8 s.modes ∧ (z.p8 = none → z.c8 = 0) ∧ z.n8 ≤ z.c8 ∧ z.c8 ≤ maxLen
  s9 : s.ids.length = z.n9 ∧ IdAt w S z.p9 s.ids ∧ (z.p9 = none → z.c9 = 0) ∧ z.n9 ≤ z.c9 ∧ z.c9 ≤ maxLen
  s10 : s.bnd.length = z.n10 ∧ BdAt w S z.p10 s.bnd ∧ (z.p10 = none → z.c10 = 0) ∧ z.n10 ≤ z.c10 ∧ z.c10 ≤ maxLen
section
variable {w w' : World} {S T X : Nat → Prop} {s : Cl} {z : Z10} {r t : Nat}
theorem IsCl.only (h : IsCl w S s z) (ho : Only X w w') (hX : ∀ k, S k → ¬ X k) : IsCl w' S s z :=
  ⟨h.len, ⟨h.s1.1, h.s1.2.1.only ho hX, h.s1.2.2⟩, ⟨h.s2.1, h.s2.2.1.only ho hX, h.s2.2.2⟩, ⟨h.s3.1, h.s3.2.1.only ho hX, h.s3.2.2⟩, ⟨h.s4.1, h.s4.2.1.only ho hX, h.s4.2.2⟩, ⟨h.s5.1, h.s5.2.1.only ho hX, h.s5.2.2⟩, ⟨h.s6.1, h.s6.2.1.only ho hX, h.s6.2.2⟩, ⟨h.s7.1, h.s7.2.1.only ho hX, h.s7.2.2⟩, ⟨h.s8.1, h.s8.2.1.only ho hX, h.s8.2.2⟩, ⟨h.s9.1, h.s9.2.1.only ho hX, h.s9.2.2⟩, ⟨h.s10.1, h.s10.2.1.only ho hX, h.s10.2.2⟩⟩
theorem IsCl.mono (h : IsCl w S s z) (hT : ∀ k, k < w.heap.size → S k → T k) : IsCl w T s z :=
  ⟨h.len, ⟨h.s1.1, h.s1.2.1.mono hT, h.s1.2.2⟩, ⟨h.s2.1, h.s2.2.1.mono hT, h.s2.2.2⟩, ⟨h.s3.1, h.s3.2.1.mono hT, h.s3.2.2⟩, ⟨h.s4.1, h.s4.2.1.mono hT, h.s4.2.2⟩, ⟨h.s5.1, h.s5.2.1.mono hT, h.s5.2.2⟩, ⟨h.s6.1, h.s6.2.1.mono hT, h.s6.2.2⟩, ⟨h.s7.1, h.s7.2.1.mono hT, h.s7.2.2⟩, ⟨h.s8.1, h.s8.2.1.mono hT, h.s8.2.2⟩, ⟨h.s9.1, h.s9.2.1.mono hT, h.s9.2.2⟩, ⟨h.s10.1, h.s10.2.1.mono hT, h.s10.2.2⟩⟩
theorem IsCl.below (h : IsCl w S s z) (hb : Below w.heap.size w w') : IsCl w' S s z := h.only (Only.of_below (r := fun _ => False) hb) (fun _ _ h => h)
theorem clV_size (s : Cl) (z : Z10) (h : s.R.length = 32) : (clV s z).size = 42 := by simp [clV, clL, h]
theorem clV_get (s : Cl) (z : Z10) (h : s.R.length = 32) (k : Nat) : (clV s z)[32 + k]? = (clL z)[k]? := by
  unfold clV
  rw [List.getElem?_toArray, List.getElem?_append_right (by simp [h])]
  simp [h]
theorem clV_rnd (s : Cl) (z : Z10) (h : s.R.length = 32) (k : Nat) (hk : k < 32) : (clV s z)[k]? = some (B8 (s.R[k]'(by rw [h]; exact hk))) := by
  unfold clV
  rw [List.getElem?_toArray, List.getElem?_append_left (by simp [h]; exact hk)]
  simp [h, hk]
theorem Blk.d32 (h : Blk w r t (clV s z)) (hl : s.R.length = 32) : w.cell? ⟨r, 32, none⟩ = some (.slice z.p1 z.n1 z.c1) := (h.c 32).trans (clV_get s z hl 0)
theorem Blk.d33 (h : Blk w r t (clV s z)) (hl : s.R.length = 32) : w.cell? ⟨r, 33, none⟩ = some (.slice z.p2 z.n2 z.c2) := (h.c 33).trans (clV_get s z hl 1)
theorem Blk.d34 (h : Blk w r t (clV s z)) (hl : s.R.length = 32) : w.cell? ⟨r, 34, none⟩ = some (.slice z.p3 z.n3 z.c3) := (h.c 34).trans (clV_get s z hl 2)
theorem Blk.d35 (h : Blk w r t (clV s z)) (hl : s.R.length = 32) : w.cell? ⟨r, 35, none⟩ = some (.slice z.p4 z.n4 z.c4) := (h.c 35).trans (clV_get s z hl 3)
theorem Blk.d36 (h : Blk w r t (clV s z)) (hl : s.R.length = 32) : w.cell? ⟨r, 36, none⟩ = some (.slice z.p5 z.n5 z.c5) := (h.c 36).trans (clV_get s z hl 4)
theorem Blk.d37 (h : Blk w r t (clV s z)) (hl : s.R.length = 32) : w.cell? ⟨r, 37, none⟩ = some (.slice z.p6 z.n6 z.c6) := (h.c 37).trans (clV_get s z hl 5)
theorem Blk.d38 (h : Blk w r t (clV s z)) (hl : s.R.length = 32) : w.cell? ⟨r, 38, none⟩ = some (.slice z.p7 z.n7 z.c7) := (h.c 38).trans (clV_get s z hl 6)
theorem Blk.d39 (h : Blk w r t (clV s z)) (hl : s.R.length = 32) : w.cell? ⟨r, 39, none⟩ = some (.slice z.p8 z.n8 z.c8) := (h.c 39).trans (clV_get s z hl 7)
theorem Blk.d40 (h : Blk w r t (clV s z)) (hl : s.R.length = 32) : w.cell? ⟨r, 40, none⟩ = some (.slice z.p9 z.n9 z.c9) := (h.c 40).trans (clV_get s z hl 8)
theorem Blk.d41 (h : Blk w r t (clV s z)) (hl : s.R.length = 32) : w.cell? ⟨r, 41, none⟩ = some (.slice z.p10 z.n10 z.c10) := (h.c 41).trans (clV_get s z hl 9)
theorem Blk.crnd (h : Blk w r t (clV s z)) (hl : s.R.length = 32) : w.rangeAt r 0 (s.R.map B8) := by
  intro j v hv
  simp only [List.getElem?_map, Option.map_eq_some_iff] at hv
  obtain ⟨x, hx, rfl⟩ := hv
  obtain ⟨hj, rfl⟩ := List.getElem?_eq_some_iff.1 hx
  rw [h.c, Nat.zero_add]
  exact clV_rnd s z hl j (by rw [← hl]; exact hj)
end
theorem clV_ones (s : Cl) (z : Z10) : (clV s z).all (·.oneCell') = true := by
  refine all_oneCell_toArray (fun v hv => ?_)
  rw [List.mem_append] at hv
  rcases hv with hv | hv
  · simp only [List.mem_map] at hv
    obtain ⟨b, _, rfl⟩ := hv
    rfl
  · simp only [clL, List.mem_cons, List.not_mem_nil, or_false] at hv
    rcases hv with h | h | h | h | h | h | h | h | h | h <;> subst h <;> rfl
theorem Try.infoCl : (Try.prog.info? 56).map (·.size) = some 42 := by kernel_rfl
theorem Try.infoRc : (Try.prog.info? 48).map (·.size) = some 42 := by kernel_rfl
end Go.Proofs.Ytegmimnhkohaoaa
/-
  The contract of hello.PutServer. No condition.
-/
namespace Go.Proofs.Ytegmimnhkohaoaa
open Go.RowKit Go.Kx
set_option linter.unusedVariables false
set_option linter.unusedSimpArgs false

attribute [local irreducible] wV wU wS
theorem nil_le : (([], false) : WS).1.length ≤ 70368744177664 := Nat.zero_le _
theorem nil_le4 : (([], false) : WS).1.length + 4 ≤ 70368744177664 := by rw [List.length_nil]; omega
theorem knownA1 : Known 70 := fun _ _ => by kernel_rfl
theorem knownA2 : Known 71 := fun _ _ => by kernel_rfl
theorem knownA3 : Known 73 := fun _ _ => by kernel_rfl
theorem knownA4 : Known 74 := fun _ _ => by kernel_rfl
theorem knownP1 : Known 33 := fun _ _ => by kernel_rfl

/-- What the closures put. -/
def yA1 (s : Sv) : WS := wU ([], false) s.ver 2
def yA2 (s : Sv) : WS := if s.retry then wU ([], false) s.grp 2 else wS ([], false) s.grp s.key
def yA3 (s : Sv) : WS := wV ([], false) s.cook 2 1 64
def yA4 (s : Sv) : WS := wU ([], false) s.psk 2

theorem a1_c (s : Sv) (z : S3) (M q : Nat) (w : World) (h : IsSv w M s z) (hB : Blk w q 33 (svV s z)) : Puts w 70 (rp q) (yA1 s) := by
  refine ⟨knownA1, fun r w1 hr hb hW => ?_⟩
  have c34 := (hB.below hb).c34 h
  go_enter Try.func70, Try.ntmps70
  go_wp2_with (go_at_call 30; refine (wuint_c r _ s.ver 2 _ hW nil_le).mono ?_; rintro e w2 ⟨rfl, hX, ho⟩)
  go_end0
  exact ⟨rfl, hX, ho⟩
theorem a4_c (s : Sv) (z : S3) (M q : Nat) (w : World) (h : IsSv w M s z) (hB : Blk w q 33 (svV s z)) : Puts w 74 (rp q) (yA4 s) := by
  refine ⟨knownA4, fun r w1 hr hb hW => ?_⟩
  have c39 := (hB.below hb).c39 h
  go_enter Try.func74, Try.ntmps74
  go_wp2_with (go_at_call 30; refine (wuint_c r _ s.psk 2 _ hW nil_le).mono ?_; rintro e w2 ⟨rfl, hX, ho⟩)
  go_end0
  exact ⟨rfl, hX, ho⟩
theorem a3_c (s : Sv) (z : S3) (M q : Nat) (w : World) (h : IsSv w M s z) (hM : M ≤ w.heap.size) (hB : Blk w q 33 (svV s z)) : Puts w 73 (rp q) (yA3 s) := by
  refine ⟨knownA3, fun r w1 hr hb hW => ?_⟩
  have c38 := (hB.below hb).c38 h
  have H3 := Lib.hid ((h.s3.below hb))
  clear h hb
  go_enter Try.func73, Try.ntmps73
  go_wp2_with (go_at_call 31; refine (wvec_c r _ _ _ _ s.cook 2 1 64 _ hW H3.out.1 (H3.out.2.1.mono (fun k _ hk => by omega)) H3.out.2.2 (by decide) nil_le).mono ?_; rintro e w2 ⟨rfl, hX, ho⟩)
  go_end0
  exact ⟨rfl, hX, ho⟩
theorem a2_c (s : Sv) (z : S3) (M q : Nat) (w : World) (h : IsSv w M s z) (hM : M ≤ w.heap.size) (hB : Blk w q 33 (svV s z)) : Puts w 71 (rp q) (yA2 s) := by
  refine ⟨knownA2, fun r w1 hr hb hW => ?_⟩
  have c35 := (hB.below hb).c35 h
  have c36 := (hB.below hb).c36 h
  have c37 := (hB.below hb).c37 h
  have H2 := Lib.hid ((h.s2.below hb))
  obtain ⟨re, hre⟩ : ∃ re, re = s.retry := ⟨_, rfl⟩
  have hy : yA2 s = if re then wU ([], false) s.grp 2 else wS ([], false) s.grp s.key := by rw [hre]; rfl
  have HY := Lib.hid hy
  rw [← hre] at c37
  clear h hb hre hy
  cases re
  · go_enter Try.func71, Try.ntmps71
    go_wp2_with (go_at_call 72; refine (wshare_c r _ s.grp _ _ _ s.key _ hW nil_le4 H2.out.1 (H2.out.2.1.mono (fun k _ hk => by omega)) H2.out.2.2).mono ?_; rintro e w2 ⟨rfl, hX, ho⟩)
    go_end0
    rw [HY.out, if_neg Bool.false_ne_true]
    exact ⟨rfl, hX, ho⟩
  · go_enter Try.func71, Try.ntmps71
    go_wp2_with (go_at_call 30; refine (wuint_c r _ s.grp 2 _ hW nil_le).mono ?_; rintro e w2 ⟨rfl, hX, ho⟩)
    go_end0
    rw [HY.out, if_pos trivial]
    exact ⟨rfl, hX, ho⟩

theorem wP_len (x y : WS) (kind : Int) (there : Bool) : (wP x kind there y).1.length ≤ x.1.length + 65541 := by
  unfold wP
  split
  · have h1 := wV_len (wU (wM x (!y.2)) kind 2) y.1 2 0 65535 (by decide)
    have h2 := wU_len (wM x (!y.2)) kind 2 (by decide)
    have h3 : (wM x (!y.2)).1.length = x.1.length := rfl
    omega
  · omega
/-- The extensions of a Server. -/
def wA (x : WS) (s : Sv) : WS := wP (wP (wP (wP x 43 true (yA1 s)) 51 (s.grp != 0) (yA2 s)) 44 (s.retry && decide (0 < s.cook.length)) (yA3 s)) 41 (decide (0 ≤ s.psk)) (yA4 s)
attribute [local irreducible] wP wN yA1 yA2 yA3 yA4

set_option maxHeartbeats 4000000 in
set_option maxRecDepth 100000 in
theorem answers_c (r : Nat) (x : WS) (s : Sv) (z : S3) (M : Nat) (w : World) (hr : Wr w r x) (hl : x.1.length + 300000 ≤ 70368744177664) (h : IsSv w M s z) (hMr : M ≤ r) : Calls Try.prog 34 #[rp r, .agg (svV s z)] w (WrR w r (wA x s)) := by
  have hlt := hr.lt
  have hB := Blk.new w 33 (svV s z)
  have hb0 : Below w.heap.size w (w.alloc (.cells (svV s z) 33)) := (Below.refl _ _).alloc (Nat.le_refl _) _
  have c35 := hB.c35 h
  have c37 := hB.c37 h
  have c38 := hB.c38 h
  have c39 := hB.c39 h
  have h1 := wP_len x (yA1 s) 43 true
  have h2 := wP_len (wP x 43 true (yA1 s)) (yA2 s) 51 (s.grp != 0)
  have h3 := wP_len (wP (wP x 43 true (yA1 s)) 51 (s.grp != 0) (yA2 s)) (yA3 s) 44 (s.retry && decide (0 < s.cook.length))
  have hws : wA x s = wP (wP (wP (wP x 43 true (yA1 s)) 51 (s.grp != 0) (yA2 s)) 44 (s.retry && decide (0 < s.cook.length)) (yA3 s)) 41 (decide (0 ≤ s.psk)) (yA4 s) := rfl
  obtain ⟨x1, hx1⟩ : ∃ x1, x1 = wP x 43 true (yA1 s) := ⟨_, rfl⟩
  rw [← hx1] at h1 h2 h3 hws
  obtain ⟨x2, hx2⟩ : ∃ x2, x2 = wP x1 51 (s.grp != 0) (yA2 s) := ⟨_, rfl⟩
  rw [← hx2] at h2 h3 hws
  obtain ⟨x3, hx3⟩ : ∃ x3, x3 = wP x2 44 (s.retry && decide (0 < s.cook.length)) (yA3 s) := ⟨_, rfl⟩
  rw [← hx3] at h3 hws
  have l3 := h.s3.1
  rw [l3] at hx3
  have HX := Lib.hid (And.intro hx1 (And.intro hx2 (And.intro hx3 hws)))
  have HB := Lib.hid (And.intro hB (And.intro (h.below hb0) (And.intro hb0 (hr.below hb0))))
  have hsz : (w.alloc (.cells (svV s z) 33)).heap.size = w.heap.size + 1 := World.size_alloc _ _
  clear hB hb0 h hr hx1 hx2 hx3 hws l3
  obtain ⟨w0, hw0⟩ : ∃ w0, w0 = w.alloc (.cells (svV s z) 33) := ⟨_, rfl⟩
  rw [← hw0] at c35 c37 c38 c39 HB hsz
  go_enter Try.func34, Try.ntmps34
  go_upto_region 1 with (fail)
  rw [← hw0]
  clear hw0
  have hst : ∀ (wa wb : World) (x' : WS), Blk wa w.heap.size 33 (svV s z) ∧ IsSv wa M s z ∧ w.heap.size < wa.heap.size → Wr wb r x' → Only (· = r) wa wb → Blk wb w.heap.size 33 (svV s z) ∧ IsSv wb M s z ∧ w.heap.size < wb.heap.size := by
    rintro wa wb x' ⟨h1, h2, h3⟩ h4 h5
    have := h5.size
    exact ⟨h1.only h5 (by omega), h2.only h5 (by intro k hk e; omega), by omega⟩
  have HST := Lib.hid hst
  clear hst
  go_wp2_with fail
  refine (wpart_c r x (yA1 s) 43 true _ _ _ HB.out.2.2.2 (by omega) (fun _ => a1_c s z M w.heap.size _ HB.out.2.1 HB.out.1)).mono ?_
  rintro e w1 ⟨rfl, hX1, ho1⟩
  rw [← HX.out.1] at hX1
  have hI1 := HST.out w0 w1 x1 ⟨HB.out.1, HB.out.2.1, by omega⟩ hX1 ho1
  have I1 := Lib.hid (And.intro hX1 (And.intro ((Only.of_below HB.out.2.2.1).then ho1) hI1))
  have c35 := hI1.1.c35 hI1.2.1
  clear hX1 ho1 hI1
  go_wp2_with fail
  refine (wpart_c r x1 (yA2 s) 51 _ _ _ _ I1.out.1 (by omega) (fun _ => a2_c s z M w.heap.size _ I1.out.2.2.2.1 (by have := I1.out.2.2.2.2; omega) I1.out.2.2.1)).mono ?_
  rintro e w2 ⟨rfl, hX2, ho2⟩
  rw [← HX.out.2.1] at hX2
  have hI2 := HST.out w1 w2 x2 I1.out.2.2 hX2 ho2
  have I2 := Lib.hid (And.intro hX2 (And.intro (I1.out.2.1.then ho2) hI2))
  have d37 := hI2.1.c37 hI2.2.1
  have d38 := hI2.1.c38 hI2.2.1
  clear hX2 ho2 hI2
  have hre : ∀ b, s.retry = b → x3 = wP x2 44 (b && decide (0 < z.n3)) (yA3 s) := by intro b hb; rw [HX.out.2.2.1, hb]
  have HRE := Lib.hid hre
  clear hre c35 c37 c38 c39
  obtain ⟨re, hre⟩ : ∃ re, re = s.retry := ⟨_, rfl⟩
  rw [← hre] at d37
  have HR2 := Lib.hid (HRE.out re hre.symm)
  clear hre HRE
  cases re <;> (
    go_wp2_with fail
    refine (wpart_c r x2 (yA3 s) 44 _ _ _ _ I2.out.1 (by omega) (fun _ => a3_c s z M w.heap.size _ I2.out.2.2.2.1 (by have := I2.out.2.2.2.2; omega) I2.out.2.2.1)).mono ?_
    rintro e w3 ⟨rfl, hX3, ho3⟩
    have hx3 := HR2.out
    simp only [Bool.false_and, Bool.true_and] at hx3
    rw [← hx3] at hX3
    clear hx3
    have hI3 := HST.out w2 w3 x3 I2.out.2.2 hX3 ho3
    have I3 := Lib.hid (And.intro hX3 (And.intro (I2.out.2.1.then ho3) hI3))
    have e39 := hI3.1.c39 hI3.2.1
    clear hX3 ho3 hI3
    go_wp2_with fail
    refine (wpart_c r x3 (yA4 s) 41 _ _ _ _ I3.out.1 (by omega) (fun _ => a4_c s z M w.heap.size _ I3.out.2.2.2.1 I3.out.2.2.1)).mono ?_
    rintro e w4 ⟨rfl, hX4, ho4⟩
    go_wp2
    go_end0
    rw [HX.out.2.2.2]
    exact ⟨rfl, hX4, I3.out.2.1.then ho4⟩)

set_option maxHeartbeats 4000000 in
set_option maxRecDepth 100000 in
theorem p1_c (s : Sv) (z : S3) (M q : Nat) (w : World) (h : IsSv w M s z) (hM : M ≤ w.heap.size) (hB : Blk w q 33 (svV s z)) : Puts w 33 (rp q) (wA ([], false) s) := by
  refine ⟨knownP1, fun r w1 hr hb hW => ?_⟩
  have HB := Lib.hid (And.intro (hB.below hb) (h.below hb))
  have hsz := svV_size h
  clear h hb hB
  go_enter Try.func33, Try.ntmps33
  go_wp2_with (first
    | (refine wpList_load_mid rfl 33 (.tmp 1) rfl q 0 rfl (svV s z).toList _ HB.out.1.range Try.underlying33 rfl (by rw [Array.length_toList, hsz]; exact Try.infoSv) ?_; rw [Array.toArray_toList])
    | (go_at_call 34; refine (answers_c r _ s z M _ hW (by rw [List.length_nil]; omega) HB.out.2 (by omega)).mono ?_; rintro e w2 ⟨rfl, hX, ho⟩))
  go_end0
  exact ⟨rfl, hX, ho⟩

/-- The greeting of a server, as the writer has it at the end. -/
def rndS (s : Sv) : List UInt8 := if s.retry then retryL else s.R
def putS (s : Sv) : WS :=
  let x2 := wU (wM ([], false) (fitsS s)) 771 2
  wN (wU (wU (wV (x2.1 ++ rndS s, x2.2) s.ses 1 0 32) s.suite 2) 0 1) (wA ([], false) s) 2

/-- What a Put tells. -/
def PutR (w : World) (x : WS) (e : Ending) (w' : World) : Prop := ((x.2 = true ∧ e = .returned (.tuple #[.slice none 0 0, .int .i64 1])) ∨ (x.2 = false ∧ ∃ g p n c, e = .returned (.tuple #[.slice p n c, .int .i64 0]) ∧ x.1.length = n ∧ w.heap.size ≤ g ∧ Own w' g (.slice p n c) x.1)) ∧ Below w.heap.size w w'

theorem ArrB.news {w : World} {r t : Nat} {xs : List UInt8} (h : ArrB w r t xs) : ∀ j u, (xs.map B8)[j]? = some u → w.cell? ((⟨r, 0, none⟩ : Addr).add j) = some u := by
  intro j u hu
  simp only [List.getElem?_map, Option.map_eq_some_iff] at hu
  obtain ⟨x, hx, rfl⟩ := hu
  obtain ⟨hj, rfl⟩ := List.getElem?_eq_some_iff.1 hx
  have e : (⟨r, 0, none⟩ : Addr).add j = ⟨r, 0 + j, none⟩ := by unfold Addr.add; split <;> simp_all
  rw [e, Nat.zero_add]
  exact h.c j hj
/-- A writer that stands in a new block, below which nothing turned. -/
def WB (w wx : World) (r : Nat) (x : WS) : Prop := Wr wx r x ∧ Below w.heap.size w wx ∧ w.heap.size ≤ r
theorem WB.step {w wx wy : World} {r : Nat} {x y : WS} (h : WB w wx r x) (h1 : Wr wy r y) (h2 : Only (· = r) wx wy) : WB w wy r y := ⟨h1, below_only h.2.1 h.2.1.size h2 (by intro k hk e; have := h.2.2; omega), h.2.2⟩

set_option maxHeartbeats 4000000 in
set_option maxRecDepth 100000 in
theorem putServer_c (s : Sv) (z : S3) (M : Nat) (w : World) (h : IsSv w M s z) (hM : M ≤ w.heap.size) : Calls Try.prog 9 #[.agg (svV s z)] w (PutR w (putS s)) := by
  have hB := Blk.new w 33 (svV s z)
  have hb0 : Below w.heap.size w (w.alloc (.cells (svV s z) 33)) := (Below.refl _ _).alloc (Nat.le_refl _) _
  have hsz := svV_size h
  have hz0 := World.size_alloc w (.cells (svV s z) 33)
  have hnew := Wr.new (w.alloc (.cells (svV s z) 33))
  have hb1 : Below (w.heap.size + 1) (w.alloc (.cells (svV s z) 33)) ((w.alloc (.cells (svV s z) 33)).alloc (.cells #[.slice none 0 0, .bool false] 80)) := (Below.refl _ _).alloc (by rw [hz0]; exact Nat.le_refl _) _
  rw [hz0] at hnew
  rw [← hz0] at hb1
  have hI : Blk ((w.alloc (.cells (svV s z) 33)).alloc (.cells #[.slice none 0 0, .bool false] 80)) w.heap.size 33 (svV s z) ∧ WB w ((w.alloc (.cells (svV s z) 33)).alloc (.cells #[.slice none 0 0, .bool false] 80)) (w.heap.size + 1) ([], false) :=
    ⟨hB.below hb1, hnew, hb0.trans (hb1.mono hb0.size), by omega⟩
  clear hB hb0 hnew hb1
  go_enter Try.func9, Try.ntmps9
  go_upto_region 2 with (fail)
  generalize (w.alloc (.cells (svV s z) 33)).alloc (.cells #[.slice none 0 0, .bool false] 80) = w1 at hI ⊢
  have hIs := h.below hI.2.2.1
  have H1 := Lib.hid (And.intro hI hIs)
  have hM1 := hI.2.2.1.size
  clear hI hIs
  go_upto_region 3 with (first
    | (refine wpList_load_mid rfl 33 (.tmp 1) rfl w.heap.size 0 rfl (svV s z).toList _ H1.out.1.1.range Try.underlying33 rfl (by rw [Array.length_toList, hsz]; exact Try.infoSv) ?_; rw [Array.toArray_toList])
    | (go_at_call 28; refine (fits_c s z M _ H1.out.2).mono ?_; rintro e w2 ⟨rfl, b2⟩; have H2 := Lib.hid (And.intro (H1.out.1.1.below b2) (And.intro (H1.out.1.2.1.below b2) (And.intro (H1.out.1.2.2.1.trans (b2.mono H1.out.1.2.2.1.size)) (H1.out.2.below b2)))); clear b2)
    | (go_at_call 27; refine (wr_must _ (fitsS s) ([], false) _ H2.out.2.1).mono ?_; rintro e w3 ⟨rfl, hX, ho⟩; have H3 := Lib.hid (And.intro (show WB w w3 (w.heap.size + 1) (wM ([], false) (fitsS s)) from (show WB w w2 (w.heap.size + 1) ([], false) from ⟨H2.out.2.1, H2.out.2.2.1, by omega⟩).step hX ho) (And.intro (H2.out.1.only ho (by omega)) (H2.out.2.2.2.only ho (by intro k hk e; omega)))); clear hX ho))
  clear H1 H2
  have hx0 : (wM ([], false) (fitsS s)).1.length = 0 := rfl
  have hput : putS s = wN (wU (wU (wV ((wU (wM ([], false) (fitsS s)) 771 2).1 ++ rndS s, (wU (wM ([], false) (fitsS s)) 771 2).2) s.ses 1 0 32) s.suite 2) 0 1) (wA ([], false) s) 2 := rfl
  have HPUT := Lib.hid hput
  clear hput
  generalize wM ([], false) (fitsS s) = x1 at *
  have hM3 := H3.out.1.2.1.size
  have hr3 := H3.out.1.1.lt
  have hb3 : w.heap.size < w3.heap.size := by omega
  have hZ := (ArrB.new w3 22 (List.replicate 32 0))
  have hB3 : Below w3.heap.size w3 (w3.alloc (.cells ((List.replicate 32 (0 : UInt8)).map B8).toArray 22)) := (Below.refl _ _).alloc (Nat.le_refl _) _
  have HZ := Lib.hid (And.intro hZ hB3)
  clear hZ hB3
  go_upto_region 4 with (first
    | (refine wpList_load_mid rfl 22 (.tmp 12) rfl w.heap.size 0 rfl (s.R.map B8) _ (H3.out.2.1.rnd h) Try.underlying22 rfl (by rw [List.length_map, h.len]; exact Try.infoB32) ?_)
    | (refine st_arrB rfl 22 (.tmp 5) _ rfl w3.heap.size s.R rfl rfl _ _ HZ.out.1 (by rw [h.len]; exact Try.infoB32) (by rw [h.len]; rfl) ?_; intro w5 hA5 hO5))
  have hB5 : Below w3.heap.size w3 w5 := below_only HZ.out.2 HZ.out.2.size hO5 (by intro k hk e; omega)
  have hs5 := hB5.size
  have c37 := (H3.out.2.1.below hB5).c37 h
  have H5 := Lib.hid (And.intro hA5 hB5)
  clear hA5 hO5 hB5
  obtain ⟨re, hre⟩ : ∃ re, re = s.retry := ⟨_, rfl⟩
  have hrn : rndS s = if re then retryL else s.R := by rw [hre]; rfl
  rw [← hre] at c37
  have HRN := Lib.hid hrn
  clear hrn hre
  go_upto_if 15 with (fail)
  go_cut [16] (fun v16 wx => ArrB wx w3.heap.size 22 (rndS s) ∧ Below w3.heap.size w3 wx)
  case first =>
    cases re
    · go_wp2
      go_meet
      rw [HRN.out, if_neg Bool.false_ne_true]
      exact H5.out
    · go_wp2_with (first
        | (go_at_call 29; refine (retry_c _).mono ?_; rintro e w6 ⟨rfl, b6⟩; have hA6 := H5.out.1.below b6; have HA6 := Lib.hid (And.intro hA6 b6); clear hA6 b6)
        | (refine st_arrB rfl 22 (.tmp 5) _ rfl w3.heap.size retryL rfl rfl _ _ HA6.out.1 (by rw [retryL_len]; exact Try.infoB32) (by rw [retryL_len]; exact h.len) ?_; intro w7 hA7 hO7))
      go_meet
      rw [HRN.out, if_pos trivial]
      have b6 := H5.out.2.trans (HA6.out.2.mono hs5)
      exact ⟨hA7, below_only b6 b6.size hO7 (by intro k hk e; omega)⟩
  case rest =>
    obtain ⟨wa, rfl⟩ : ∃ wa : World, wa = wc := ⟨_, rfl⟩
    obtain ⟨hA, hB⟩ := hcut
    have hlr : (rndS s).length = 32 := by unfold rndS; split; exact retryL_len; exact h.len
    have hW := H3.out.1.1.below hB
    have hsa := hB.size
    have HA := Lib.hid (And.intro hA (And.intro (show WB w wa (w.heap.size + 1) x1 from ⟨hW, H3.out.1.2.1.trans (hB.mono H3.out.1.2.1.size), by omega⟩) (And.intro (H3.out.2.1.below hB) (H3.out.2.2.below hB))))
    clear hA hB hW c37 H5 H3 HZ
    have hl2 := wU_len x1 771 2 (by decide)
    go_upto_region 7 with (go_at_call 30; refine (wuint_c _ x1 771 2 _ HA.out.2.1.1 (by omega)).mono ?_; rintro e w2 ⟨rfl, hX, ho⟩; have H2 := Lib.hid (And.intro (HA.out.1.only ho (by omega)) (And.intro (HA.out.2.1.step hX ho) (And.intro (HA.out.2.2.1.only ho (by omega)) (HA.out.2.2.2.only ho (by intro k hk e; omega))))); clear hX ho)
    obtain ⟨g, p, n, c, hbx, hn, hrg, hO⟩ := H2.out.2.1.1.ex
    have c0 := hbx.c0
    have f0 := hbx.fr 0
    have hs2 := H2.out.1.lt
    have hn2 : n ≤ 100 := by omega
    have HN := Lib.hid (ArrB.news H2.out.1)
    have HO := Lib.hid (And.intro (hO.row hn) (And.intro hbx hn))
    have hm32 : ((rndS s).map B8).length = 32 * 1 := by rw [List.length_map, hlr]
    have HM := Lib.hid hm32
    clear hO hbx hn hm32
    go_region_law ((refine step_append_row rfl _ _ 23 rfl 5 (.int .u8 0) 1 1 Try.underlying23 Try.info5 rfl (by decide) g (.slice p n c) n ((wU x1 771 2).1.map B8) (by simp [Act.eval, Act.put]) HO.out.1 ⟨w3.heap.size, 0, none⟩ 32 32 ((rndS s).map B8) (by simp [Act.eval, Act.put]) HM.out HN.out (oneCell_map _) (by simp only [maxLen]; omega) (by omega) w2.heap.size (by simp) ?_; intro g2 v2 w5 hrow hg2 hO5q; have hO5 : Only (· = g) w2 w5 := (by first | exact hO5q | exact ⟨hO5q.os, hO5q.tape, hO5q.output, hO5q.size, hO5q.block⟩); clear hO5q; have hx5 := HO.out.2.1.only hO5 (by omega); have f5 := hx5.fr 0; have c5 := hx5.c0; obtain ⟨p5, k5, rfl, -⟩ := Row.form hrow; have H5 := Lib.hid (And.intro hrow (And.intro hg2 (And.intro hO5 hx5))); clear hrow hg2 hO5 hx5))
    have hO6 : Own (w5.setCell ⟨w.heap.size + 1, 0, none⟩ (.slice p5 (n + 32) k5)) g2 (.slice p5 (n + 32) k5) ((wU x1 771 2).1 ++ rndS s) := by
      have h5 : Own w5 g2 (.slice p5 (n + 32) k5) ((wU x1 771 2).1 ++ rndS s) := by
        unfold Own
        rw [List.length_append, List.map_append, HO.out.2.2, hlr]
        exact H5.out.1
      exact h5.only ((Only.refl (fun k => k = w.heap.size + 1) w5).setCell _ _ (.inl rfl)) (by have := H5.out.2.1; omega)
    have hx6 := H5.out.2.2.2.set0 (.slice p5 (n + 32) k5)
    have hW6 : Wr (w5.setCell ⟨w.heap.size + 1, 0, none⟩ (.slice p5 (n + 32) k5)) (w.heap.size + 1) ((wU x1 771 2).1 ++ rndS s, (wU x1 771 2).2) :=
      ⟨g2, p5, n + 32, k5, hx6, by rw [List.length_append, HO.out.2.2, hlr], by have := H5.out.2.1; omega, hO6⟩
    have hO26 : Only (fun k => k = g ∨ k = w.heap.size + 1) w2 (w5.setCell ⟨w.heap.size + 1, 0, none⟩ (.slice p5 (n + 32) k5)) := (H5.out.2.2.1.mono (fun _ _ h => .inl h)).setCell _ _ (.inl (.inr rfl))
    have hB6 := H2.out.2.2.1.only hO26 (by omega)
    have hI6 := H2.out.2.2.2.only hO26 (by intro k hk e; omega)
    have hBel6 := below_only H2.out.2.1.2.1 H2.out.2.1.2.1.size hO26 (by intro k hk e; omega)
    have hx3l : ((wU x1 771 2).1 ++ rndS s).length ≤ 200 := by rw [List.length_append, HO.out.2.2, hlr]; omega
    have hput : putS s = wN (wU (wU (wV ((wU x1 771 2).1 ++ rndS s, (wU x1 771 2).2) s.ses 1 0 32) s.suite 2) 0 1) (wA ([], false) s) 2 := HPUT.out
    have h4l := wV_len ((wU x1 771 2).1 ++ rndS s, (wU x1 771 2).2) s.ses 1 0 32 (by decide)
    obtain ⟨x4, hx4⟩ : ∃ x4, x4 = wV ((wU x1 771 2).1 ++ rndS s, (wU x1 771 2).2) s.ses 1 0 32 := ⟨_, rfl⟩
    rw [← hx4] at hput h4l
    have h5l := wU_len x4 s.suite 2 (by decide)
    obtain ⟨x5, hx5⟩ : ∃ x5, x5 = wU x4 s.suite 2 := ⟨_, rfl⟩
    rw [← hx5] at hput h5l
    have h6l := wU_len x5 0 1 (by decide)
    obtain ⟨x6, hx6'⟩ : ∃ x6, x6 = wU x5 0 1 := ⟨_, rfl⟩
    rw [← hx6'] at hput h6l
    have HX := Lib.hid (And.intro hx4 (And.intro hx5 (And.intro hx6' hput)))
    have h4l' : x4.1.length ≤ 65737 := Nat.le_trans h4l (by show ((wU x1 771 2).1 ++ rndS s).length + 65537 ≤ _; omega)
    have H6 := Lib.hid (And.intro (show WB w (w5.setCell ⟨w.heap.size + 1, 0, none⟩ (.slice p5 (n + 32) k5)) (w.heap.size + 1) ((wU x1 771 2).1 ++ rndS s, (wU x1 771 2).2) from ⟨hW6, hBel6, by omega⟩) (And.intro hB6 hI6))
    have c32 := hB6.c32 h
    clear hx4 hx5 hx6' hput h4l hO6 hx6 hW6 hO26 hB6 hI6 hBel6 c0 f0 c5 f5 HN HM
    generalize w5.setCell ⟨w.heap.size + 1, 0, none⟩ (.slice p5 (n + 32) k5) = w6 at *
    go_wp2_with (first
      | (go_at_call 31; refine (wvec_c _ _ _ _ _ s.ses 1 0 32 _ H6.out.1.1 H6.out.2.2.s1.1 (H6.out.2.2.s1.2.1.mono (fun k _ hk => by omega)) H6.out.2.2.s1.2.2 (by decide) (by show ((wU x1 771 2).1 ++ rndS s).length ≤ _; omega)).mono ?_; rintro e w7 ⟨rfl, hX, ho⟩; rw [← HX.out.1] at hX; have H7 := Lib.hid (And.intro (H6.out.1.step hX ho) (And.intro (H6.out.2.1.only ho (by omega)) (H6.out.2.2.only ho (by intro k hk e; omega)))); have c33 := H7.out.2.1.c33 h; clear hX ho)
      | (go_at_call 30; have hq := H8; refine (wuint_c _ x5 0 1 _ H8.out.1.1 (by omega)).mono ?_; rintro e w9 ⟨rfl, hX, ho⟩; rw [← HX.out.2.2.1] at hX; have H9 := Lib.hid (And.intro (H8.out.1.step hX ho) (And.intro (H8.out.2.1.only ho (by omega)) (H8.out.2.2.only ho (by intro k hk e; omega)))); clear hX ho)
      | (go_at_call 30; refine (wuint_c _ x4 s.suite 2 _ H7.out.1.1 (by omega)).mono ?_; rintro e w8 ⟨rfl, hX, ho⟩; rw [← HX.out.2.1] at hX; have H8 := Lib.hid (And.intro (H7.out.1.step hX ho) (And.intro (H7.out.2.1.only ho (by omega)) (H7.out.2.2.only ho (by intro k hk e; omega)))); clear hX ho)
      | (go_at_call 32; refine (wnested_c _ x6 _ 2 _ _ _ H9.out.1.1 (by decide) (by omega) (p1_c s z M w.heap.size _ H9.out.2.2 (by have := H9.out.1.2.1.size; omega) H9.out.2.1)).mono ?_; rintro e w10 ⟨rfl, hX, ho⟩; rw [← HX.out.2.2.2] at hX; have H10 := Lib.hid (H9.out.1.step hX ho); clear hX ho)
      | (go_at_call 35; refine (wend_c _ _ _ H10.out.1).mono ?_; rintro e w11 ⟨rfl, hE⟩; rcases hE with ⟨he, rfl⟩ | ⟨he, g9, p9, n9, c9, rfl, hn9, hg9, hO9⟩))
    · go_ret2
      exact ⟨.inl ⟨he, rfl⟩, H10.out.2.1⟩
    · go_ret2
      exact ⟨.inr ⟨he, g9, p9, n9, c9, rfl, hn9, by omega, hO9⟩, H10.out.2.1⟩
end Go.Proofs.Ytegmimnhkohaoaa
/-
  What the closures of hello.PutClient put. Conditions: those of Fit (at most 2 to the 46th bytes in all).
-/
namespace Go.Proofs.Ytegmimnhkohaoaa
open Go.RowKit Go.Kx
set_option linter.unusedVariables false
set_option linter.unusedSimpArgs false
set_option maxRecDepth 100000

/-- There is room for all of it. -/
structure Fit (s : Cl) : Prop where
  f1 : s.suites.length ≤ 8796093022208
  f2 : s.vers.length ≤ 8796093022208
  f3 : s.grps.length ≤ 8796093022208
  f4 : s.schs.length ≤ 8796093022208
  f5 : 65541 * s.shs.length ≤ 70368744177664
  f6 : 65541 * s.ids.length ≤ 70368744177664
  f7 : 256 * s.bnd.length ≤ 70368744177664
def wSh (x : WS) (l : List (Int × List UInt8)) : WS := l.foldl (fun y t => wS y t.1 t.2) x
theorem wSh_snoc (x : WS) (l : List (Int × List UInt8)) (t : Int × List UInt8) : wSh x (l ++ [t]) = wS (wSh x l) t.1 t.2 := by unfold wSh; simp only [List.foldl_append, List.foldl_cons, List.foldl_nil]
theorem wSh_len (l : List (Int × List UInt8)) : ∀ x : WS, (wSh x l).1.length ≤ x.1.length + 65541 * l.length := by
  induction l with
  | nil => intro x; unfold wSh; simp only [List.foldl_nil, List.length_nil]; omega
  | cons b t ih =>
    intro x
    have h1 := ih (wS x b.1 b.2)
    have h2 := wV_len (wU x b.1 2) b.2 2 1 64 (by decide)
    have h3 := wU_len x b.1 2 (by decide)
    have h4 : (wS x b.1 b.2).1.length ≤ x.1.length + 65541 := by unfold wS; omega
    have h5 : wSh x (b :: t) = wSh (wS x b.1 b.2) t := by unfold wSh; simp only [List.foldl_cons]
    rw [h5, List.length_cons]
    omega
def yC1 (s : Cl) : WS := wL ([], false) s.vers 1 4
def yC2 (s : Cl) : WS := wL ([], false) s.grps 2 4
def yC3 (s : Cl) : WS := wL ([], false) s.schs 2 4
def yC5 (s : Cl) : WS := wV ([], false) s.cook 2 1 64
def yC6 (s : Cl) : WS := wV ([], false) s.modes 1 1 4
def yC4 (s : Cl) : WS := wN (wM ([], false) (decide (s.shs.length ≤ 4))) (wSh ([], false) s.shs) 2
def yC7 (s : Cl) : WS := wN (wN ([], false) (wId (wM ([], false) (decide (s.ids.length ≤ 4))) s.ids) 2) (wB ([], false) s.bnd) 2
attribute [local irreducible] wV wU wS wL wN
theorem pc1_c (s : Cl) (z : Z10) (M q : Nat) (w : World) (h : IsCl w (· < M) s z) (hM : M ≤ w.heap.size) (hB : Blk w q 56 (clV s z)) (hf : Fit s) : Puts w 87 (rp q) (yC1 s) := by
  refine ⟨fun _ _ => by kernel_rfl, fun r w1 hr hb hW => ?_⟩
  have c := (hB.below hb).d34 h.len
  have H3 := Lib.hid (And.intro (h.below hb).s3 hf.f2)
  clear h hb hf hB
  go_enter Try.func87, Try.ntmps87
  go_wp2_with (go_at_call 51; refine (wlist_c r _ _ _ _ s.vers 1 4 _ hW (H3.out.1.2.1.mono (fun k _ hk => by omega)) H3.out.1.1 (by rw [← H3.out.1.1]; exact H3.out.2) nil_le (by decide)).mono ?_; rintro e w2 ⟨rfl, hX, ho⟩)
  go_end0
  exact ⟨rfl, hX, ho⟩
theorem pc2_c (s : Cl) (z : Z10) (M q : Nat) (w : World) (h : IsCl w (· < M) s z) (hM : M ≤ w.heap.size) (hB : Blk w q 56 (clV s z)) (hf : Fit s) : Puts w 88 (rp q) (yC2 s) := by
  refine ⟨fun _ _ => by kernel_rfl, fun r w1 hr hb hW => ?_⟩
  have c := (hB.below hb).d35 h.len
  have H3 := Lib.hid (And.intro (h.below hb).s4 hf.f3)
  clear h hb hf hB
  go_enter Try.func88, Try.ntmps88
  go_wp2_with (go_at_call 51; refine (wlist_c r _ _ _ _ s.grps 2 4 _ hW (H3.out.1.2.1.mono (fun k _ hk => by omega)) H3.out.1.1 (by rw [← H3.out.1.1]; exact H3.out.2) nil_le (by decide)).mono ?_; rintro e w2 ⟨rfl, hX, ho⟩)
  go_end0
  exact ⟨rfl, hX, ho⟩
theorem pc3_c (s : Cl) (z : Z10) (M q : Nat) (w : World) (h : IsCl w (· < M) s z) (hM : M ≤ w.heap.size) (hB : Blk w q 56 (clV s z)) (hf : Fit s) : Puts w 89 (rp q) (yC3 s) := by
  refine ⟨fun _ _ => by kernel_rfl, fun r w1 hr hb hW => ?_⟩
  have c := (hB.below hb).d36 h.len
  have H3 := Lib.hid (And.intro (h.below hb).s5 hf.f4)
  clear h hb hf hB
  go_enter Try.func89, Try.ntmps89
  go_wp2_with (go_at_call 51; refine (wlist_c r _ _ _ _ s.schs 2 4 _ hW (H3.out.1.2.1.mono (fun k _ hk => by omega)) H3.out.1.1 (by rw [← H3.out.1.1]; exact H3.out.2) nil_le (by decide)).mono ?_; rintro e w2 ⟨rfl, hX, ho⟩)
  go_end0
  exact ⟨rfl, hX, ho⟩
theorem pc5_c (s : Cl) (z : Z10) (M q : Nat) (w : World) (h : IsCl w (· < M) s z) (hM : M ≤ w.heap.size) (hB : Blk w q 56 (clV s z)) : Puts w 92 (rp q) (yC5 s) := by
  refine ⟨fun _ _ => by kernel_rfl, fun r w1 hr hb hW => ?_⟩
  have c := (hB.below hb).d38 h.len
  have H3 := Lib.hid (h.below hb).s7
  clear h hb hB
  go_enter Try.func92, Try.ntmps92
  go_wp2_with (go_at_call 31; refine (wvec_c r _ _ _ _ s.cook 2 1 64 _ hW H3.out.1 (H3.out.2.1.mono (fun k _ hk => by omega)) H3.out.2.2.1 (by decide) nil_le).mono ?_; rintro e w2 ⟨rfl, hX, ho⟩)
  go_end0
  exact ⟨rfl, hX, ho⟩
theorem pc6_c (s : Cl) (z : Z10) (M q : Nat) (w : World) (h : IsCl w (· < M) s z) (hM : M ≤ w.heap.size) (hB : Blk w q 56 (clV s z)) : Puts w 93 (rp q) (yC6 s) := by
  refine ⟨fun _ _ => by kernel_rfl, fun r w1 hr hb hW => ?_⟩
  have c := (hB.below hb).d39 h.len
  have H3 := Lib.hid (h.below hb).s8
  clear h hb hB
  go_enter Try.func93, Try.ntmps93
  go_wp2_with (go_at_call 31; refine (wvec_c r _ _ _ _ s.modes 1 1 4 _ hW H3.out.1 (H3.out.2.1.mono (fun k _ hk => by omega)) H3.out.2.2.1 (by decide) nil_le).mono ?_; rintro e w2 ⟨rfl, hX, ho⟩)
  go_end0
  exact ⟨rfl, hX, ho⟩
end Go.Proofs.Ytegmimnhkohaoaa
/-
  What the closures of hello.PutClient put that hold others: shares and tickets. Conditions: those of Fit.
-/
namespace Go.Proofs.Ytegmimnhkohaoaa
open Go.RowKit Go.Kx
set_option linter.unusedVariables false
set_option linter.unusedSimpArgs false
set_option maxRecDepth 100000
theorem wN_le (x y : WS) : (wN x y 2).1.length ≤ x.1.length + 65537 := by
  unfold wN
  have h := wV_len (wM x (!y.2)) y.1 2 0 65535 (by decide)
  have h2 : (wM x (!y.2)).1.length = x.1.length := rfl
  omega
attribute [local irreducible] wV wU wS wL wN wSh wId wB
set_option maxHeartbeats 8000000 in
theorem pc41_c (s : Cl) (z : Z10) (M q : Nat) (w : World) (h : IsCl w (· < M) s z) (hM : M ≤ w.heap.size) (hB : Blk w q 56 (clV s z)) (hf : Fit s) : Puts w 91 (rp q) (wSh ([], false) s.shs) := by
  refine ⟨fun _ _ => by kernel_rfl, fun r w1 hr hb hW => ?_⟩
  have c := (hB.below hb).d37 h.len
  have hsn : s.shs.length ≤ 1099511627776 := by have := hf.f5; omega
  have hs5 := (h.below hb).s6
  have hlen : s.shs.length = z.n6 := hs5.1
  have H0 := Lib.hid (And.intro hW (And.intro hs5.2.1 (And.intro hlen hf.f5)))
  have hrl := hW.lt
  have hnz : z.n6 ≤ 1099511627776 := by omega
  clear h hf hB hb hW hs5
  generalize z.p6 = p5 at *
  generalize z.c6 = c5 at *
  generalize z.n6 = n5 at *
  subst hlen
  go_enter Try.func91, Try.ntmps91
  go_upto_region 1 with (fail)
  go_loopw [8] (fun v8 wr => ∃ i : Nat, i ≤ s.shs.length ∧ v8 = .int .i64 (i : Int) ∧ Wr wr r (wSh ([], false) (s.shs.take i)) ∧ Only (· = r) w1 wr) (fun v8 _ => s.shs.length - (intOf v8).toNat)
  case atStart => exact ⟨0, Nat.zero_le _, rfl, by unfold wSh; exact H0.out.1, Only.refl _ _⟩
  case round =>
    obtain ⟨i, hi, rfl, hW', hO'⟩ := hrel
    have HW := Lib.hid (And.intro hW' hO')
    have hzr := hO'.size
    clear hW' hO'
    by_cases hlt : i < s.shs.length
    · obtain ⟨g, o, a, m, k, rfl, hS, hc, hd, hl, hrd, hnl⟩ := (H0.out.2.1.only HW.out.2 (by intro k hk e; omega)) i hlt
      have hts : s.shs.take (i + 1) = s.shs.take i ++ [s.shs[i]] := List.take_succ_eq_append_getElem hlt
      have hln := wSh_len (s.shs.take i) ([], false)
      have hlt2 : (s.shs.take i).length + 1 ≤ s.shs.length := by rw [List.length_take]; omega
      have hf5 := H0.out.2.2.2
      obtain ⟨v, hv⟩ : ∃ v, v = s.shs[i] := ⟨_, rfl⟩
      rw [← hv] at hts hl hrd hc
      obtain ⟨gr, ke⟩ := v
      simp only at hl hrd hc
      have HT := Lib.hid (And.intro hts (And.intro hl (And.intro (hrd.mono (T := (· < r)) (fun k hk h => by omega)) hnl)))
      have hbx := Box2.new wr 31 (.int .i64 gr) (.slice a m k)
      have hBz : Below wr.heap.size wr (wr.alloc (.cells #[.int .i64 gr, .slice a m k] 31)) := (Below.refl _ _).alloc (Nat.le_refl _) _
      have d0 := hbx.c0
      have d1 := hbx.c1
      have HX := Lib.hid hBz
      have hgr := World.block_lt_of_cell? wr _ hc
      have hxl : (wSh ([], false) (s.shs.take i)).1.length + 65541 ≤ 70368744177664 := by
        have e : (([], false) : WS).1.length = 0 := rfl
        rw [e] at hln
        omega
      clear hts hv hl hrd hnl hbx hBz hln hf5
      have HLT := Lib.hid hlt
      go_wp2_with (first
        | (go_at_call 72; refine (wshare_c r _ gr _ _ _ ke _ (HW.out.1.below HX.out) (by omega) HT.out.2.1 (HT.out.2.2.1.below HX.out) HT.out.2.2.2).mono ?_; rintro e w5 ⟨rfl, hX, ho⟩; have H5 := Lib.hid (And.intro hX ho); clear hX ho))
      refine ⟨⟨i + 1, by have := HLT.out; omega, by go_num, by rw [HT.out.1, wSh_snoc]; exact H5.out.1, HW.out.2.then ((Only.of_below HX.out).then H5.out.2)⟩, by have := HLT.out; simp [intOf]; omega⟩
    · obtain rfl : i = s.shs.length := by omega
      have htl : s.shs.take s.shs.length = s.shs := List.take_length
      have HTL := Lib.hid htl
      clear htl
      go_wp2
      go_end0
      have h := HW.out.1
      rw [HTL.out] at h
      exact ⟨rfl, h, HW.out.2⟩
set_option maxHeartbeats 8000000 in
theorem pc4_c (s : Cl) (z : Z10) (M q : Nat) (w : World) (h : IsCl w (· < M) s z) (hM : M ≤ w.heap.size) (hB : Blk w q 56 (clV s z)) (hf : Fit s) : Puts w 90 (rp q) (yC4 s) := by
  refine ⟨fun _ _ => by kernel_rfl, fun r w1 hr hb hW => ?_⟩
  have c := (hB.below hb).d37 h.len
  have hq := hB.lt
  have hrl := hW.lt
  have hlen : s.shs.length = z.n6 := h.s6.1
  have hbb : decide ((z.n6 : Int) ≤ 4) = decide (z.n6 ≤ 4) := by rw [Bool.eq_iff_iff]; simp; omega
  obtain ⟨b, hb4⟩ : ∃ b, b = decide (z.n6 ≤ 4) := ⟨_, rfl⟩
  have hy : yC4 s = wN (wM ([], false) b) (wSh ([], false) s.shs) 2 := by rw [hb4, ← hlen]; rfl
  have HI := Lib.hid (And.intro (h.below hb) (And.intro (hB.below hb) (And.intro hf (And.intro hy hW))))
  rw [← hb4] at hbb
  have hb5 := hb4.symm
  have hM1 : M ≤ w1.heap.size := Nat.le_trans hM hb.size
  clear h hB hf hb hW hlen hy hb4
  go_enter Try.func90, Try.ntmps90
  go_wp2_with (first
    | (go_at_call 27; refine (wr_must r b _ _ HI.out.2.2.2.2).mono ?_; rintro e w2 ⟨rfl, hX, ho⟩; have H2 := Lib.hid (And.intro hX (And.intro ho (And.intro (HI.out.1.only ho (by intro k hk e; omega)) (HI.out.2.1.only ho (by omega))))); have hz2 := ho.size; clear hX ho)
    | (go_at_call 32; refine (wnested_c r _ _ 2 _ _ _ H2.out.1 (by decide) nil_le (pc41_c s z M q _ H2.out.2.2.1 (by omega) H2.out.2.2.2 HI.out.2.2.1)).mono ?_; rintro e w3 ⟨rfl, hX, ho⟩; have H3 := Lib.hid (And.intro hX ho); clear hX ho))
  go_end0
  rw [HI.out.2.2.2.1]
  exact ⟨rfl, H3.out.1, H2.out.2.1.then H3.out.2⟩
theorem pc71_c (s : Cl) (z : Z10) (M q : Nat) (w : World) (h : IsCl w (· < M) s z) (hM : M ≤ w.heap.size) (hB : Blk w q 56 (clV s z)) (hf : Fit s) : Puts w 95 (rp q) (wId (wM ([], false) (decide (s.ids.length ≤ 4))) s.ids) := by
  refine ⟨fun _ _ => by kernel_rfl, fun r w1 hr hb hW => ?_⟩
  have c := (hB.below hb).d40 h.len
  have hlen : s.ids.length = z.n9 := h.s9.1
  have hf6 := hf.f6
  rw [hlen] at hf6
  have e0 : (([], false) : WS).1.length = 0 := rfl
  have H0 := Lib.hid (And.intro hW (And.intro ((h.below hb).s9.2.1.mono (T := (· ≠ r)) (fun k _ hk => by omega)) (And.intro hlen (And.intro hf6 e0))))
  rw [hlen]
  clear h hf hB hb hW hlen hf6 e0
  go_enter Try.func95, Try.ntmps95
  go_wp2_with (go_at_call 96; refine (wids_c r ([], false) _ z.n9 _ s.ids _ H0.out.1 H0.out.2.1 H0.out.2.2.1 (by have h1 := H0.out.2.2.2.1; have h2 := H0.out.2.2.2.2; rw [h2]; omega)).mono ?_; rintro e w2 ⟨rfl, hX, ho⟩; have H2 := Lib.hid (And.intro hX ho); clear hX ho)
  go_end0
  exact ⟨rfl, H2.out.1, H2.out.2⟩
theorem pc72_c (s : Cl) (z : Z10) (M q : Nat) (w : World) (h : IsCl w (· < M) s z) (hM : M ≤ w.heap.size) (hB : Blk w q 56 (clV s z)) (hf : Fit s) : Puts w 97 (rp q) (wB ([], false) s.bnd) := by
  refine ⟨fun _ _ => by kernel_rfl, fun r w1 hr hb hW => ?_⟩
  have c := (hB.below hb).d41 h.len
  have hlen : s.bnd.length = z.n10 := h.s10.1
  have hf7 := hf.f7
  rw [hlen] at hf7
  have e0 : (([], false) : WS).1.length = 0 := rfl
  have H0 := Lib.hid (And.intro hW (And.intro ((h.below hb).s10.2.1.mono (T := (· ≠ r)) (fun k _ hk => by omega)) (And.intro hlen (And.intro hf7 e0))))
  clear h hf hB hb hW hlen hf7 e0
  go_enter Try.func97, Try.ntmps97
  go_wp2_with (go_at_call 98; refine (wbinders_c r ([], false) _ z.n10 _ s.bnd _ H0.out.1 H0.out.2.1 H0.out.2.2.1 (by have h1 := H0.out.2.2.2.1; omega) (by have h1 := H0.out.2.2.2.1; have h2 := H0.out.2.2.2.2; rw [h2]; omega)).mono ?_; rintro e w2 ⟨rfl, hX, ho⟩; have H2 := Lib.hid (And.intro hX ho); clear hX ho)
  go_end0
  exact ⟨rfl, H2.out.1, H2.out.2⟩
theorem pc7_c (s : Cl) (z : Z10) (M q : Nat) (w : World) (h : IsCl w (· < M) s z) (hM : M ≤ w.heap.size) (hB : Blk w q 56 (clV s z)) (hf : Fit s) : Puts w 94 (rp q) (yC7 s) := by
  refine ⟨fun _ _ => by kernel_rfl, fun r w1 hr hb hW => ?_⟩
  have hq := hB.lt
  have hrl := hW.lt
  have hM1 : M ≤ w1.heap.size := Nat.le_trans hM hb.size
  have hy : yC7 s = wN (wN ([], false) (wId (wM ([], false) (decide (s.ids.length ≤ 4))) s.ids) 2) (wB ([], false) s.bnd) 2 := rfl
  have hl := wN_le ([], false) (wId (wM ([], false) (decide (s.ids.length ≤ 4))) s.ids)
  have e0 : (([], false) : WS).1.length = 0 := rfl
  rw [e0] at hl
  have HI := Lib.hid (And.intro (h.below hb) (And.intro (hB.below hb) (And.intro hf (And.intro hy (And.intro hW hl)))))
  clear h hB hf hb hW hy hl e0
  go_enter Try.func94, Try.ntmps94
  go_wp2_with (first
    | (go_at_call 32; have hq2 := H2; refine (wnested_c r _ _ 2 _ _ _ H2.out.1 (by decide) (by have := HI.out.2.2.2.2.2; omega) (pc72_c s z M q _ H2.out.2.2.1 (by omega) H2.out.2.2.2 HI.out.2.2.1)).mono ?_; rintro e w3 ⟨rfl, hX, ho⟩; have H3 := Lib.hid (And.intro hX ho); clear hX ho)
    | (go_at_call 32; refine (wnested_c r _ _ 2 _ _ _ HI.out.2.2.2.2.1 (by decide) nil_le (pc71_c s z M q _ HI.out.1 hM1 HI.out.2.1 HI.out.2.2.1)).mono ?_; rintro e w2 ⟨rfl, hX, ho⟩; have H2 := Lib.hid (And.intro hX (And.intro ho (And.intro (HI.out.1.only ho (by intro k hk e; omega)) (HI.out.2.1.only ho (by omega))))); have hz2 := ho.size; clear hX ho))
  go_end0
  rw [HI.out.2.2.2.1]
  exact ⟨rfl, H3.out.1, H2.out.2.1.then H3.out.2⟩
end Go.Proofs.Ytegmimnhkohaoaa
/-
  The contract of hello.PutClient. Conditions: those of Fit.
-/
namespace Go.Proofs.Ytegmimnhkohaoaa
open Go.RowKit Go.Kx
set_option linter.unusedVariables false
set_option linter.unusedSimpArgs false
set_option maxRecDepth 100000

def xC1 (x : WS) (s : Cl) : WS := wP x 43 (decide (0 < s.vers.length)) (yC1 s)
def xC2 (x : WS) (s : Cl) : WS := wP (xC1 x s) 10 (decide (0 < s.grps.length)) (yC2 s)
def xC3 (x : WS) (s : Cl) : WS := wP (xC2 x s) 13 (decide (0 < s.schs.length)) (yC3 s)
def xC4 (x : WS) (s : Cl) : WS := wP (xC3 x s) 51 (decide (0 < s.shs.length)) (yC4 s)
def xC5 (x : WS) (s : Cl) : WS := wP (xC4 x s) 44 (decide (0 < s.cook.length)) (yC5 s)
def xC6 (x : WS) (s : Cl) : WS := wP (xC5 x s) 45 (decide (0 < s.modes.length)) (yC6 s)
def xC7 (x : WS) (s : Cl) : WS := wP (xC6 x s) 41 (decide (0 < s.ids.length)) (yC7 s)
attribute [local irreducible] wP wN wV wU wL yC1 yC2 yC3 yC4 yC5 yC6 yC7
set_option maxHeartbeats 8000000 in
theorem parts_c (r : Nat) (x : WS) (s : Cl) (z : Z10) (M : Nat) (w : World) (hr : Wr w r x) (hl : x.1.length + 600000 ≤ 70368744177664) (h : IsCl w (· < M) s z) (hMr : M ≤ r) (hf : Fit s) : Calls Try.prog 53 #[rp r, .agg (clV s z)] w (WrR w r (xC7 x s)) := by
  have hlt := hr.lt
  have hB := Blk.new w 56 (clV s z)
  have hb0 : Below w.heap.size w (w.alloc (.cells (clV s z) 56)) := (Below.refl _ _).alloc (Nat.le_refl _) _
  have hlen := h.len
  have h1 : (xC1 x s).1.length ≤ x.1.length + 65541 := wP_len _ _ _ _
  have e1 : decide (0 < s.vers.length) = decide (0 < z.n3) := by rw [h.s3.1]
  have h2 : (xC2 x s).1.length ≤ (xC1 x s).1.length + 65541 := wP_len _ _ _ _
  have e2 : decide (0 < s.grps.length) = decide (0 < z.n4) := by rw [h.s4.1]
  have h3 : (xC3 x s).1.length ≤ (xC2 x s).1.length + 65541 := wP_len _ _ _ _
  have e3 : decide (0 < s.schs.length) = decide (0 < z.n5) := by rw [h.s5.1]
  have h4 : (xC4 x s).1.length ≤ (xC3 x s).1.length + 65541 := wP_len _ _ _ _
  have e4 : decide (0 < s.shs.length) = decide (0 < z.n6) := by rw [h.s6.1]
  have h5 : (xC5 x s).1.length ≤ (xC4 x s).1.length + 65541 := wP_len _ _ _ _
  have e5 : decide (0 < s.cook.length) = decide (0 < z.n7) := by rw [h.s7.1]
  have h6 : (xC6 x s).1.length ≤ (xC5 x s).1.length + 65541 := wP_len _ _ _ _
  have e6 : decide (0 < s.modes.length) = decide (0 < z.n8) := by rw [h.s8.1]
  have h7 : (xC7 x s).1.length ≤ (xC6 x s).1.length + 65541 := wP_len _ _ _ _
  have e7 : decide (0 < s.ids.length) = decide (0 < z.n9) := by rw [h.s9.1]
  obtain ⟨x1, hx1⟩ : ∃ y, y = xC1 x s := ⟨_, rfl⟩
  have hp1 : x1 = wP x 43 (decide (0 < z.n3)) (yC1 s) := by rw [hx1]; unfold xC1; rw [e1]
  obtain ⟨x2, hx2⟩ : ∃ y, y = xC2 x s := ⟨_, rfl⟩
  have hp2 : x2 = wP x1 10 (decide (0 < z.n4)) (yC2 s) := by rw [hx2, hx1]; unfold xC2; rw [e2]
  obtain ⟨x3, hx3⟩ : ∃ y, y = xC3 x s := ⟨_, rfl⟩
  have hp3 : x3 = wP x2 13 (decide (0 < z.n5)) (yC3 s) := by rw [hx3, hx2]; unfold xC3; rw [e3]
  obtain ⟨x4, hx4⟩ : ∃ y, y = xC4 x s := ⟨_, rfl⟩
  have hp4 : x4 = wP x3 51 (decide (0 < z.n6)) (yC4 s) := by rw [hx4, hx3]; unfold xC4; rw [e4]
  obtain ⟨x5, hx5⟩ : ∃ y, y = xC5 x s := ⟨_, rfl⟩
  have hp5 : x5 = wP x4 44 (decide (0 < z.n7)) (yC5 s) := by rw [hx5, hx4]; unfold xC5; rw [e5]
  obtain ⟨x6, hx6⟩ : ∃ y, y = xC6 x s := ⟨_, rfl⟩
  have hp6 : x6 = wP x5 45 (decide (0 < z.n8)) (yC6 s) := by rw [hx6, hx5]; unfold xC6; rw [e6]
  obtain ⟨x7, hx7⟩ : ∃ y, y = xC7 x s := ⟨_, rfl⟩
  have hp7 : x7 = wP x6 41 (decide (0 < z.n9)) (yC7 s) := by rw [hx7, hx6]; unfold xC7; rw [e7]
  rw [← hx1] at h1 h2
  rw [← hx2] at h2 h3
  rw [← hx3] at h3 h4
  rw [← hx4] at h4 h5
  rw [← hx5] at h5 h6
  rw [← hx6] at h6 h7
  rw [← hx7] at h7 ⊢
  have HX := Lib.hid (And.intro hp1 (And.intro hp2 (And.intro hp3 (And.intro hp4 (And.intro hp5 (And.intro hp6 hp7))))))
  clear hp1 hx1 e1 hp2 hx2 e2 hp3 hx3 e3 hp4 hx4 e4 hp5 hx5 e5 hp6 hx6 e6 hp7 hx7 e7
  have HB := Lib.hid (And.intro hB (And.intro (h.below hb0) (And.intro hb0 (hr.below hb0))))
  have hsz : (w.alloc (.cells (clV s z) 56)).heap.size = w.heap.size + 1 := World.size_alloc _ _
  clear hB hb0 h hr
  go_enter Try.func53, Try.ntmps53
  go_upto_region 1 with (fail)
  generalize w.alloc (.cells (clV s z) 56) = w0 at *
  have hst : ∀ (wa wb : World) (x' : WS), Blk wa w.heap.size 56 (clV s z) ∧ IsCl wa (· < M) s z ∧ w.heap.size < wa.heap.size → Wr wb r x' → Only (· = r) wa wb → Blk wb w.heap.size 56 (clV s z) ∧ IsCl wb (· < M) s z ∧ w.heap.size < wb.heap.size := by
    rintro wa wb x' ⟨h1, h2, h3⟩ h4 h5
    have := h5.size
    exact ⟨h1.only h5 (by omega), h2.only h5 (by intro k hk e; omega), by omega⟩
  have HST := Lib.hid hst
  have I0 := Lib.hid (show Wr w0 r x ∧ Only (· = r) w w0 ∧ (Blk w0 w.heap.size 56 (clV s z) ∧ IsCl w0 (· < M) s z ∧ w.heap.size < w0.heap.size) from ⟨HB.out.2.2.2, Only.of_below HB.out.2.2.1, HB.out.1, HB.out.2.1, by omega⟩)
  clear hst HB
  have c34 := I0.out.2.2.1.d34 hlen
  go_wp2_with fail
  refine (wpart_c r x (yC1 s) 43 _ _ _ _ I0.out.1 (by omega) (fun _ => pc1_c s z M w.heap.size _ I0.out.2.2.2.1 (by have := I0.out.2.2.2.2; omega) I0.out.2.2.1 hf)).mono ?_
  rintro e w1 ⟨rfl, hX, ho⟩
  rw [← HX.out.1] at hX
  have I1 := Lib.hid (And.intro hX (And.intro (I0.out.2.1.then ho) (HST.out _ w1 x1 I0.out.2.2 hX ho)))
  clear hX ho c34
  have c35 := I1.out.2.2.1.d35 hlen
  go_wp2_with fail
  refine (wpart_c r x1 (yC2 s) 10 _ _ _ _ I1.out.1 (by omega) (fun _ => pc2_c s z M w.heap.size _ I1.out.2.2.2.1 (by have := I1.out.2.2.2.2; omega) I1.out.2.2.1 hf)).mono ?_
  rintro e w2 ⟨rfl, hX, ho⟩
  rw [← HX.out.2.1] at hX
  have I2 := Lib.hid (And.intro hX (And.intro (I1.out.2.1.then ho) (HST.out _ w2 x2 I1.out.2.2 hX ho)))
  clear hX ho c35
  have c36 := I2.out.2.2.1.d36 hlen
  go_wp2_with fail
  refine (wpart_c r x2 (yC3 s) 13 _ _ _ _ I2.out.1 (by omega) (fun _ => pc3_c s z M w.heap.size _ I2.out.2.2.2.1 (by have := I2.out.2.2.2.2; omega) I2.out.2.2.1 hf)).mono ?_
  rintro e w3 ⟨rfl, hX, ho⟩
  rw [← HX.out.2.2.1] at hX
  have I3 := Lib.hid (And.intro hX (And.intro (I2.out.2.1.then ho) (HST.out _ w3 x3 I2.out.2.2 hX ho)))
  clear hX ho c36
  have c37 := I3.out.2.2.1.d37 hlen
  go_wp2_with fail
  refine (wpart_c r x3 (yC4 s) 51 _ _ _ _ I3.out.1 (by omega) (fun _ => pc4_c s z M w.heap.size _ I3.out.2.2.2.1 (by have := I3.out.2.2.2.2; omega) I3.out.2.2.1 hf)).mono ?_
  rintro e w4 ⟨rfl, hX, ho⟩
  rw [← HX.out.2.2.2.1] at hX
  have I4 := Lib.hid (And.intro hX (And.intro (I3.out.2.1.then ho) (HST.out _ w4 x4 I3.out.2.2 hX ho)))
  clear hX ho c37
  have c38 := I4.out.2.2.1.d38 hlen
  go_wp2_with fail
  refine (wpart_c r x4 (yC5 s) 44 _ _ _ _ I4.out.1 (by omega) (fun _ => pc5_c s z M w.heap.size _ I4.out.2.2.2.1 (by have := I4.out.2.2.2.2; omega) I4.out.2.2.1)).mono ?_
  rintro e w5 ⟨rfl, hX, ho⟩
  rw [← HX.out.2.2.2.2.1] at hX
  have I5 := Lib.hid (And.intro hX (And.intro (I4.out.2.1.then ho) (HST.out _ w5 x5 I4.out.2.2 hX ho)))
  clear hX ho c38
  have c39 := I5.out.2.2.1.d39 hlen
  go_wp2_with fail
  refine (wpart_c r x5 (yC6 s) 45 _ _ _ _ I5.out.1 (by omega) (fun _ => pc6_c s z M w.heap.size _ I5.out.2.2.2.1 (by have := I5.out.2.2.2.2; omega) I5.out.2.2.1)).mono ?_
  rintro e w6 ⟨rfl, hX, ho⟩
  rw [← HX.out.2.2.2.2.2.1] at hX
  have I6 := Lib.hid (And.intro hX (And.intro (I5.out.2.1.then ho) (HST.out _ w6 x6 I5.out.2.2 hX ho)))
  clear hX ho c39
  have c40 := I6.out.2.2.1.d40 hlen
  go_wp2_with fail
  refine (wpart_c r x6 (yC7 s) 41 _ _ _ _ I6.out.1 (by omega) (fun _ => pc7_c s z M w.heap.size _ I6.out.2.2.2.1 (by have := I6.out.2.2.2.2; omega) I6.out.2.2.1 hf)).mono ?_
  rintro e w7 ⟨rfl, hX, ho⟩
  rw [← HX.out.2.2.2.2.2.2] at hX
  have I7 := Lib.hid (And.intro hX (And.intro (I6.out.2.1.then ho) (HST.out _ w7 x7 I6.out.2.2 hX ho)))
  clear hX ho c40
  go_wp2
  go_end0
  exact ⟨rfl, I7.out.1, I7.out.2.1⟩

theorem wPc_le (x y : WS) (k : Int) (b : Bool) : (wP x k b y).1.length ≤ x.1.length + 65541 := wP_len _ _ _ _
theorem wL_le (x : WS) (l : List Int) (m : Int) : (wL x l 2 m).1.length ≤ x.1.length + 65537 := by
  unfold wL
  exact wV_len _ _ _ _ _ (by decide)
def putC (s : Cl) : WS := wN (wV (wL (wV ((wU (wM ([], false) (decide (s.ids.length = s.bnd.length))) 771 2).1 ++ s.R, (wU (wM ([], false) (decide (s.ids.length = s.bnd.length))) 771 2).2) s.ses 1 0 32) s.suites 2 8) [0] 1 1 1) (xC7 ([], false) s) 2
theorem nil_lt6 : (([], false) : WS).1.length + 600000 ≤ 70368744177664 := by rw [List.length_nil]; omega
set_option maxHeartbeats 8000000 in
theorem pc0_c (s : Cl) (z : Z10) (M q : Nat) (w : World) (h : IsCl w (· < M) s z) (hM : M ≤ w.heap.size) (hB : Blk w q 56 (clV s z)) (hf : Fit s) : Puts w 52 (rp q) (xC7 ([], false) s) := by
  refine ⟨fun _ _ => by kernel_rfl, fun r w1 hr hb hW => ?_⟩
  have HB := Lib.hid (And.intro (hB.below hb) (And.intro (h.below hb) hf))
  have hsz := clV_size s z h.len
  clear h hb hB hf
  go_enter Try.func52, Try.ntmps52
  go_wp2_with (first
    | (refine wpList_load_mid rfl 56 (.tmp 1) rfl q 0 rfl (clV s z).toList _ HB.out.1.range Try.underlying56 rfl (by rw [Array.length_toList, hsz]; exact Try.infoCl) ?_; rw [Array.toArray_toList])
    | (go_at_call 53; refine (parts_c r _ s z M _ hW nil_lt6 HB.out.2.1 (by omega) HB.out.2.2).mono ?_; rintro e w2 ⟨rfl, hX, ho⟩))
  go_end0
  exact ⟨rfl, hX, ho⟩
end Go.Proofs.Ytegmimnhkohaoaa
/-
  The contract of hello.PutClient. Conditions: those of Fit.
-/
namespace Go.Proofs.Ytegmimnhkohaoaa
open Go.RowKit Go.Kx
set_option linter.unusedVariables false
set_option linter.unusedSimpArgs false
set_option maxRecDepth 100000
attribute [local irreducible] wP wN wV wU wL xC7

/-- The Client's block, its slices, the writer. -/
structure PJ (w : World) (M : Nat) (s : Cl) (z : Z10) (r : Nat) (x : WS) (wx : World) : Prop where
  b : Blk wx w.heap.size 56 (clV s z)
  i : IsCl wx (· < M) s z
  wr : WB w wx r x
  lt : w.heap.size < r
theorem PJ.step {w wx wy : World} {M r : Nat} {s : Cl} {z : Z10} {x y : WS} (h : PJ w M s z r x wx) (hM : M ≤ w.heap.size) (h1 : Wr wy r y) (h2 : Only (· = r) wx wy) : PJ w M s z r y wy :=
  ⟨h.b.only h2 (by have := h.lt; omega), h.i.only h2 (by intro k hk e; have := h.lt; omega), h.wr.step h1 h2, h.lt⟩

theorem PJ.below {w wx wy : World} {M r : Nat} {s : Cl} {z : Z10} {x : WS} (h : PJ w M s z r x wx) (hb : Below wx.heap.size wx wy) : PJ w M s z r x wy :=
  ⟨h.b.below hb, h.i.below hb, ⟨h.wr.1.below hb, h.wr.2.1.trans (hb.mono h.wr.2.1.size), h.wr.2.2⟩, h.lt⟩
set_option maxHeartbeats 8000000 in
theorem putClient_c (s : Cl) (z : Z10) (M : Nat) (w : World) (h : IsCl w (· < M) s z) (hM : M ≤ w.heap.size) (hf : Fit s) : Calls Try.prog 16 #[.agg (clV s z)] w (PutR w (putC s)) := by
  have hB := Blk.new w 56 (clV s z)
  have hb0 : Below w.heap.size w (w.alloc (.cells (clV s z) 56)) := (Below.refl _ _).alloc (Nat.le_refl _) _
  have hz0 := World.size_alloc w (.cells (clV s z) 56)
  have hnew := Wr.new (w.alloc (.cells (clV s z) 56))
  have hb1 : Below (w.heap.size + 1) (w.alloc (.cells (clV s z) 56)) ((w.alloc (.cells (clV s z) 56)).alloc (.cells #[.slice none 0 0, .bool false] 80)) := (Below.refl _ _).alloc (by rw [hz0]; exact Nat.le_refl _) _
  rw [hz0] at hnew
  rw [← hz0] at hb1
  have hI : PJ w M s z (w.heap.size + 1) ([], false) ((w.alloc (.cells (clV s z) 56)).alloc (.cells #[.slice none 0 0, .bool false] 80)) :=
    ⟨hB.below hb1, (h.below hb0).below hb1, ⟨hnew, hb0.trans (hb1.mono hb0.size), by omega⟩, by omega⟩
  have hlen := h.len
  have l9 := h.s9.1
  have l10 := h.s10.1
  obtain ⟨b, hb⟩ : ∃ b, b = decide (z.n9 = z.n10) := ⟨_, rfl⟩
  have hbb : ((z.n9 : Int) == (z.n10 : Int)) = b := by rw [hb, Bool.eq_iff_iff]; simp; omega
  have hput : putC s = wN (wV (wL (wV ((wU (wM ([], false) b) 771 2).1 ++ s.R, (wU (wM ([], false) b) 771 2).2) s.ses 1 0 32) s.suites 2 8) [0] 1 1 1) (xC7 ([], false) s) 2 := by
    rw [hb, ← l9, ← l10]; rfl
  have HPUT := Lib.hid hput
  have HF := Lib.hid hf
  clear hB hb0 hnew hb1 h hb hput hf l9 l10
  go_enter Try.func16, Try.ntmps16
  go_upto_region 2 with (fail)
  generalize (w.alloc (.cells (clV s z) 56)).alloc (.cells #[.slice none 0 0, .bool false] 80) = w1 at *
  have c40 := hI.b.d40 hlen
  have c41 := hI.b.d41 hlen
  have H1 := Lib.hid hI
  have hM1 := hI.wr.2.1.size
  have hl2 := wU_len (wM ([], false) b) 771 2 (by decide)
  have e0 : (wM ([], false) b).1.length = 0 := rfl
  rw [e0] at hl2
  have HL2 := Lib.hid e0
  clear hI e0
  go_upto_region 4 with (first
    | (go_at_call 27; refine (wr_must _ b ([], false) _ H1.out.wr.1).mono ?_; rintro e w3 ⟨rfl, hX, ho⟩; have H3 := Lib.hid (H1.out.step hM hX ho); clear hX ho)
    | (go_at_call 30; refine (wuint_c _ (wM ([], false) b) 771 2 _ H3.out.wr.1 (by rw [HL2.out]; omega)).mono ?_; rintro e w4 ⟨rfl, hX, ho⟩; have H4 := Lib.hid (H3.out.step hM hX ho); clear hX ho))
  clear H1 H3 c40 c41 hbb
  obtain ⟨x2, hx2⟩ : ∃ y, y = wU (wM ([], false) b) 771 2 := ⟨_, rfl⟩
  rw [← hx2] at H4 hl2 HPUT
  clear hx2
  obtain ⟨g, p, n, c, hbx, hn, hrg, hO⟩ := H4.out.wr.1.ex
  have c0 := hbx.c0
  have f0 := hbx.fr 0
  have hs2 := H4.out.b.lt
  have hrl := H4.out.wr.1.lt
  have hn2 : n ≤ 100 := by omega
  have hnews : ∀ j u, (s.R.map B8)[j]? = some u → w4.cell? ((⟨w.heap.size, 0, none⟩ : Addr).add j) = some u := by
    intro j u hu
    have e : (⟨w.heap.size, 0, none⟩ : Addr).add j = ⟨w.heap.size, 0 + j, none⟩ := by unfold Addr.add; split <;> simp_all
    rw [e]
    exact H4.out.b.crnd hlen j u hu
  have HN := Lib.hid hnews
  have HO := Lib.hid (And.intro (hO.row hn) (And.intro hbx hn))
  have hm32 : (s.R.map B8).length = 32 * 1 := by rw [List.length_map, hlen]
  have HM := Lib.hid hm32
  clear hO hbx hn hm32 hnews
  go_region_law ((refine step_append_row rfl _ _ 23 rfl 5 (.int .u8 0) 1 1 Try.underlying23 Try.info5 rfl (by decide) g (.slice p n c) n (x2.1.map B8) (by simp [Act.eval, Act.put]) HO.out.1 ⟨w.heap.size, 0, none⟩ 32 32 (s.R.map B8) (by simp [Act.eval, Act.put]) HM.out HN.out (oneCell_map _) (by simp only [maxLen]; omega) (by omega) w4.heap.size (by simp) ?_; intro g2 v2 w5 hrow hg2 hO5q; have hO5 : Only (· = g) w4 w5 := (by first | exact hO5q | exact ⟨hO5q.os, hO5q.tape, hO5q.output, hO5q.size, hO5q.block⟩); clear hO5q; have hx5 := HO.out.2.1.only hO5 (by omega); have f5 := hx5.fr 0; have c5 := hx5.c0; obtain ⟨p5, k5, rfl, -⟩ := Row.form hrow; have H5 := Lib.hid (And.intro hrow (And.intro hg2 (And.intro hO5 hx5))); clear hrow hg2 hO5 hx5))
  have hO6 : Own (w5.setCell ⟨w.heap.size + 1, 0, none⟩ (.slice p5 (n + 32) k5)) g2 (.slice p5 (n + 32) k5) (x2.1 ++ s.R) := by
    have h5 : Own w5 g2 (.slice p5 (n + 32) k5) (x2.1 ++ s.R) := by
      unfold Own
      rw [List.length_append, List.map_append, HO.out.2.2, hlen]
      exact H5.out.1
    exact h5.only ((Only.refl (fun k => k = w.heap.size + 1) w5).setCell _ _ (.inl rfl)) (by have := H5.out.2.1; omega)
  have hx6 := H5.out.2.2.2.set0 (.slice p5 (n + 32) k5)
  have hW6 : Wr (w5.setCell ⟨w.heap.size + 1, 0, none⟩ (.slice p5 (n + 32) k5)) (w.heap.size + 1) (x2.1 ++ s.R, x2.2) :=
    ⟨g2, p5, n + 32, k5, hx6, by rw [List.length_append, HO.out.2.2, hlen], by have := H5.out.2.1; omega, hO6⟩
  have hO46 : Only (fun k => k = g ∨ k = w.heap.size + 1) w4 (w5.setCell ⟨w.heap.size + 1, 0, none⟩ (.slice p5 (n + 32) k5)) := (H5.out.2.2.1.mono (fun _ _ h => .inl h)).setCell _ _ (.inl (.inr rfl))
  have hJ6 : PJ w M s z (w.heap.size + 1) (x2.1 ++ s.R, x2.2) (w5.setCell ⟨w.heap.size + 1, 0, none⟩ (.slice p5 (n + 32) k5)) :=
    ⟨H4.out.b.only hO46 (by omega), H4.out.i.only hO46 (by intro k hk e; omega), ⟨hW6, below_only H4.out.wr.2.1 H4.out.wr.2.1.size hO46 (by intro k hk e; omega), by omega⟩, by omega⟩
  have hx3l : (x2.1 ++ s.R).length ≤ 200 := by rw [List.length_append, HO.out.2.2, hlen]; omega
  have hput := HPUT.out
  have h4l := wV_len (x2.1 ++ s.R, x2.2) s.ses 1 0 32 (by decide)
  obtain ⟨x4, hx4⟩ : ∃ x4, x4 = wV (x2.1 ++ s.R, x2.2) s.ses 1 0 32 := ⟨_, rfl⟩
  rw [← hx4] at hput h4l
  have h5l := wL_le x4 s.suites 8
  obtain ⟨x5, hx5⟩ : ∃ x5, x5 = wL x4 s.suites 2 8 := ⟨_, rfl⟩
  rw [← hx5] at hput h5l
  have h6l := wV_len x5 [0] 1 1 1 (by decide)
  obtain ⟨x6, hx6'⟩ : ∃ x6, x6 = wV x5 [0] 1 1 1 := ⟨_, rfl⟩
  rw [← hx6'] at hput h6l
  have HX := Lib.hid (And.intro hx4 (And.intro hx5 (And.intro hx6' hput)))
  have h4l' : x4.1.length ≤ 65737 := Nat.le_trans h4l (by show (x2.1 ++ s.R).length + 65537 ≤ _; omega)
  have J6 := Lib.hid hJ6
  have c32 := hJ6.b.d32 hlen
  clear hx4 hx5 hx6' hput h4l hO6 hx6 hW6 hO46 hJ6 c0 f0 c5 f5 HN HM HPUT
  generalize w5.setCell ⟨w.heap.size + 1, 0, none⟩ (.slice p5 (n + 32) k5) = w6 at *
  go_wp2_with (first
    | (go_at_call 31; have hq := J8; refine (wvec_c _ _ _ 1 1 [0] 1 1 1 _ J8.out.2.1.wr.1 rfl (J8.out.1.mono (fun k _ hk => by omega)) (by intro h; cases h) (by decide) (by omega)).mono ?_; rintro e w9 ⟨rfl, hX, ho⟩; rw [← HX.out.2.2.1] at hX; have J9 := Lib.hid (J8.out.2.1.step hM hX ho); clear hX ho)
    | (go_at_call 31; refine (wvec_c _ _ _ _ _ s.ses 1 0 32 _ J6.out.wr.1 J6.out.i.s1.1 (J6.out.i.s1.2.1.mono (fun k _ hk => by omega)) J6.out.i.s1.2.2.1 (by decide) (by show (x2.1 ++ s.R).length ≤ _; omega)).mono ?_; rintro e w7 ⟨rfl, hX, ho⟩; rw [← HX.out.1] at hX; have J7 := Lib.hid (J6.out.step hM hX ho); have c33 := J7.out.b.d33 hlen; clear hX ho)
    | (go_at_call 51; refine (wlist_c _ x4 _ _ _ s.suites 2 8 _ J7.out.wr.1 (J7.out.i.s2.2.1.mono (fun k _ hk => by omega)) J7.out.i.s2.1 (by rw [← J7.out.i.s2.1]; exact HF.out.f1) (by omega) (by decide)).mono ?_; rintro e w8 ⟨rfl, hX, ho⟩; rw [← HX.out.2.1] at hX; have hJ8 := J7.out.step hM hX ho; have hz8 := hJ8.wr.2.1.size; have hr8 := hJ8.wr.1.lt; have hB8 : Below w8.heap.size w8 (w8.alloc (.cells #[.int .u8 0] 5)) := (Below.refl _ _).alloc (Nat.le_refl _) _; have J8 := Lib.hid (And.intro (Own.lit w8 [0] (by simp)).rd (And.intro (hJ8.below hB8) hr8)); clear hX ho hJ8 hB8)
    | (go_at_call 32; refine (wnested_c _ x6 _ 2 _ _ _ J9.out.wr.1 (by decide) (by omega) (pc0_c s z M w.heap.size _ J9.out.i (by have := J9.out.wr.2.1.size; omega) J9.out.b HF.out)).mono ?_; rintro e w10 ⟨rfl, hX, ho⟩; rw [← HX.out.2.2.2] at hX; have J10 := Lib.hid (J9.out.wr.step hX ho); clear hX ho)
    | (go_at_call 35; refine (wend_c _ _ _ J10.out.1).mono ?_; rintro e w11 ⟨rfl, hE⟩; rcases hE with ⟨he, rfl⟩ | ⟨he, g9, p9, n9, c9, rfl, hn9, hg9, hO9⟩))
  · go_ret2
    exact ⟨.inl ⟨he, rfl⟩, J10.out.2.1⟩
  · go_ret2
    exact ⟨.inr ⟨he, g9, p9, n9, c9, rfl, hn9, by omega, hO9⟩, J10.out.2.1⟩
end Go.Proofs.Ytegmimnhkohaoaa
/-
  A map[int]bool of the call's own that holds a list of numbers: look-up and store. Condition: fewer than maxLen entries.
-/
namespace Go.Proofs.Ytegmimnhkohaoaa
open Go.RowKit Go.Kx Go.Maps

abbrev HD := DataW Unit
def hadD (had : List Int) : HD := had.foldr (fun k D => D.put (.int .i64 k) (.lit (.bool true))) (.map [])
theorem hadD_map (had : List Int) : IsMap (hadD had) := by
  induction had with
  | nil => exact isMap_empty
  | cons k t ih =>
    obtain ⟨es, h⟩ := ih
    show IsMap ((hadD t).put _ _)
    rw [h]
    exact ⟨_, rfl⟩
theorem hadD_at (had : List Int) (k : Int) : (hadD had).atKey (.int .i64 k) (.lit (.bool false)) = .lit (.bool (decide (k ∈ had))) := by
  induction had with
  | nil => simp [hadD, DataW.atKey]
  | cons x t ih =>
    show ((hadD t).put _ _).atKey _ _ = _
    by_cases e : k = x
    · subst e
      rw [atKey_put_same (hadD_map t) (by simp [WideAt.IsKeyLit])]
      simp
    · rw [atKey_put_other (by simp; exact e), ih]
      simp [e]
/-- Block b is a map that holds these numbers. -/
def HadAt (w : World) (b : Nat) (had : List Int) : Prop := w.ownsMap Try.prog 3 (plainElem (H := Unit) Try.prog 4) b had.length (hadD had)
theorem HadAt.lt {w : World} {b : Nat} {had : List Int} (h : HadAt w b had) : b < w.heap.size := World.ownsMap.lt h
theorem HadAt.new (w : World) : HadAt (w.alloc (.map #[] 0)) w.heap.size [] := World.ownsMap_made _ _ _ _
theorem HadAt.only {w w' : World} {q : Nat → Prop} {b : Nat} {had : List Int} (h : HadAt w b had) (ho : Only q w w') (hq : ¬ q b) : HadAt w' b had := by
  obtain ⟨es, clock, hb, F, hs, hD⟩ := id h
  exact ⟨es, clock, (ho.block b h.lt hq).trans hb, F, hs, hD⟩
theorem plainElem_bool_inv {P : Program} {e : TypeId} (he : P.underlying e = some .bool) {v : Value} {z : HD × List MemPlace} (h : plainElem P e v = some z) : ∃ x, v = .bool x ∧ z = (.lit (.bool x), []) := by
  unfold plainElem at h
  rw [he] at h
  cases v <;> simp at h
  exact ⟨_, rfl, h.symm⟩
theorem zeroB (w : World) : (zeroValue 4).run Try.prog w = .ok (.bool false) w := by kernel_rfl
theorem run_lookup_had {w : World} {b : Nat} {had : List Int} (h : HadAt w b had) (k : Int) (hk : (Lit.int .i64 k).wf = true) : (Instr.lookup 129 (.map (some b)) (.int .i64 k) false).run Try.prog w = .ok (.bool (decide (k ∈ had))) w := by
  obtain ⟨v, ps, hrun, hv⟩ := World.ownsMap.lookup h (int_keyed Try.underlying3) Try.underlying129 (zeroB w) (plainElem_bool Try.underlying4 false) (keyOf_int_mk Try.underlying3 hk)
  obtain ⟨x, rfl, hx⟩ := plainElem_bool_inv Try.underlying4 hv
  rw [hadD_at] at hx
  simp only [Prod.mk.injEq, DataW.lit.injEq, Lit.bool.injEq] at hx
  rw [hrun, hx.1]
theorem wpList_lookup_had (w : World) {ops : Array Oper} {rest : List Oper} {o : Oper} {a : Act} {Q : Exit → Act → World → Prop}
    (hg : o.guard = none) (m x : Operand) (hop : o.op = Op.lookup 129 m x false) (b : Nat) (had : List Int) (k : Int)
    (hm : a.eval m = .map (some b)) (hx : a.eval x = .int .i64 k) (h : HadAt w b had) (hk : (Lit.int .i64 k).wf = true)
    (hK : wpList Try.prog ops Q rest (a.put o.dst (.bool (decide (k ∈ had)))) w) : wpList Try.prog ops Q (o :: rest) a w := by
  refine wpList_plain hg fun K' hK' => ?_
  have hrun := run_lookup_had h k hk
  unfold Oper.wp
  simp [execOp, hop, hm, hx, hrun, Result.andThen]
  exact hK' _ _ hK
theorem wpList_update_had (w : World) {ops : Array Oper} {rest : List Oper} {o : Oper} {a : Act} {Q : Exit → Act → World → Prop}
    (hg : o.guard = none) (m x v : Operand) (hop : o.op = Op.mapUpdate 129 m x v) (b : Nat) (had : List Int) (k : Int)
    (hm : a.eval m = .map (some b)) (hx : a.eval x = .int .i64 k) (hv : a.eval v = .bool true) (h : HadAt w b had) (hk : (Lit.int .i64 k).wf = true) (hn : had.length < maxLen)
    (hK : ∀ w', HadAt w' b (k :: had) → Only (· = b) w w' → wpList Try.prog ops Q rest (a.put o.dst undef) w') : wpList Try.prog ops Q (o :: rest) a w :=
  wpList_mapUpdate_own w hg m x v 129 hop 3 4 (int_keyed Try.underlying3) Try.underlying129 _ b had.length (hadD had) hm h hn _ _ _ hx hv (keyOf_int_mk Try.underlying3 hk) _ [] (plainElem_bool Try.underlying4 true)
    fun w' h1 h2 => hK w' h1 ((Only.of_grown h2).mono fun k _ hk => by simpa using hk)
end Go.Proofs.Ytegmimnhkohaoaa
/-
  The contracts of package hello's readers that call closures: must, skip, inside, within, extensions. Conditions: at most 2 to the 47th bytes.
-/
namespace Go.Proofs.Ytegmimnhkohaoaa
open Go.RowKit Go.Kx
set_option linter.unusedVariables false
set_option linter.unusedSimpArgs false

/-- What Uint tells. -/
def rU (s : List UInt8) (bad W : Int) : Int × List UInt8 × Int := ((beN (outS s (wb bad W) W) : Nat), leftS s (wb bad W) W, badS s (wb bad W) W)
def CurR (w : World) (r g : Nat) (x : List UInt8 × Int) (e : Ending) (w' : World) : Prop := e = .returned ret0 ∧ Cur w' r g x.1 x.2 ∧ Only (· = r) w w'
theorem ruint_c (r g : Nat) (s : List UInt8) (bad W : Int) (w : World) (hr : Cur w r g s bad) : Calls Try.prog 46 #[rp r, .int .i64 W] w fun e w' => e = .returned (.int .i64 (rU s bad W).1) ∧ Cur w' r g (rU s bad W).2.1 (rU s bad W).2.2 ∧ Only (· = r) w w' := uint_c r g s bad W w hr
theorem rU_big (s : List UInt8) (bad W : Int) : 0 ≤ (rU s bad W).1 ∧ (rU s bad W).1 < 4294967296 := by
  have := beN_small _ (out_four s bad W)
  unfold rU
  simp only
  omega
theorem rU_left (s : List UInt8) (bad W : Int) : (rU s bad W).2.1.length ≤ s.length := leftS_le _ _ _
theorem vecS_left (s : List UInt8) (bad W l m : Int) : (vecS s bad W l m).2.1.length ≤ s.length := by
  unfold vecS
  simp only
  split <;> exact Nat.le_trans (leftS_le _ _ _) (leftS_le _ _ _)
theorem vecS_out (s : List UInt8) (bad W l m : Int) : (vecS s bad W l m).1.length ≤ s.length := by
  unfold vecS
  simp only
  split
  · simp
  · exact Nat.le_trans (outS_le _ _ _) (leftS_le _ _ _)

def mustS (s : List UInt8) (bad n W : Int) : List UInt8 × Int := ((rU s bad W).2.1, if (rU s bad W).1 = n then (rU s bad W).2.2 else rm (rU s bad W).2.2 3)
theorem must_c (r g : Nat) (s : List UInt8) (bad n W : Int) (w : World) (hr : Cur w r g s bad) : Calls Try.prog 43 #[rp r, .int .i64 n, .int .i64 W] w (CurR w r g (mustS s bad n W)) := by
  have H := Lib.hid (fun wx (h : Cur wx r g s bad) => ruint_c r g s bad W wx h)
  have hm : mustS s bad n W = ((rU s bad W).2.1, if (rU s bad W).1 = n then (rU s bad W).2.2 else rm (rU s bad W).2.2 3) := rfl
  have HM := Lib.hid hm
  clear hm
  generalize rU s bad W = u at *
  obtain ⟨a, s1, b1⟩ := u
  simp only at H
  by_cases h : a = n
  · have hb : (a != n) = false := by simpa using h
    have HE := Lib.hid h
    clear h
    go_enter Try.func43, Try.ntmps43
    go_wp2_with (first
      | (go_at_call 46; refine (H.out _ hr).mono ?_; rintro e w1 ⟨rfl, hc, ho⟩))
    go_end0
    rw [HM.out]
    simp only [HE.out, if_true]
    exact ⟨rfl, hc, ho⟩
  · have hb : (a != n) = true := by simpa using h
    have HE := Lib.hid h
    clear h
    go_enter Try.func43, Try.ntmps43
    go_wp2_with (first
      | (go_at_call 46; refine (H.out _ hr).mono ?_; rintro e w1 ⟨rfl, hc, ho⟩)
      | (go_at_call 49; refine (fail_c r g _ _ _ hc).mono ?_; rintro e w2 ⟨rfl, hc2, ho2⟩))
    go_end0
    rw [HM.out]
    simp only [HE.out, if_false]
    exact ⟨rfl, hc2, ho.then ho2⟩

def skipS (s : List UInt8) (bad : Int) : List UInt8 × Int := (leftS s bad (s.length : Int), badS s bad (s.length : Int))
theorem skip_c (r g : Nat) (s : List UInt8) (bad : Int) (w : World) (hr : Cur w r g s bad) (hl : s.length ≤ 140737488355328) : Calls Try.prog 86 #[rp r] w (CurR w r g (skipS s bad)) := by
  go_enter Try.func86, Try.ntmps86
  go_wp2_with (first
    | (go_at_call 82; refine (left_c r g s bad _ hr).mono ?_; rintro e w1 ⟨rfl, rfl⟩)
    | (go_at_call 44; refine (bytes_c r g s bad _ _ hr hl).mono ?_; rintro e w2 ⟨g', p, c, rfl, h1, h2, hc, ho⟩))
  go_end0
  exact ⟨rfl, hc, ho⟩

/-- What a closure does that reads all that a new Reader has: from I to J; B: the old blocks that it may change. -/
def ReadsR (w : World) (q g : Nat) (y : List UInt8 × Int) (J : World → Prop) (B : Nat → Prop) (e : Ending) (w' : World) : Prop := e = .returned ret0 ∧ Cur w' q g y.1 y.2 ∧ J w' ∧ Only (fun b => b = q ∨ B b) w w'
def Reads (M : Nat) (k : FuncId) (cap : Array Value) (I : World → Prop) (s : List UInt8) (y : List UInt8 × Int) (J : World → Prop) (B : Nat → Prop) : Prop :=
  Known k ∧ ∀ (q g : Nat) (w' : World), M ≤ q → M ≤ g → M ≤ w'.heap.size → I w' → Cur w' q g s 0 → Calls Try.prog k (#[rp q] ++ cap) w' (ReadsR w' q g y J B)
/-- The error behind it. -/
def insB (bad : Int) (y : List UInt8 × Int) : Int := if doneS y.1 y.2 = 0 then bad else rm bad 3

set_option maxHeartbeats 4000000 in
set_option maxRecDepth 100000 in
theorem inside_c (r g : Nat) (s : List UInt8) (bad : Int) (S : Nat → Prop) (p : Option Addr) (n c : Nat) (b : List UInt8) (k : FuncId) (cap : Array Value) (I J : World → Prop) (y : List UInt8 × Int) (B : Nat → Prop) (w : World)
    (hr : Cur w r g s bad) (hb : Rd w S p b) (hn : b.length = n) (hp : p = none → c = 0) (hl : b.length ≤ 140737488355328) (hI : ∀ w', Below w.heap.size w w' → I w') (hJ : ∀ w1 w2, J w1 → Only (· = r) w1 w2 → J w2)
    (hf : Reads w.heap.size k cap I b y J B) (hBr : ¬ B r) (hBg : ¬ B g) :
    Calls Try.prog 84 #[rp r, .slice p n c, .func (.func k) #[] cap] w (ReadsR w r g (s, insB bad y) J B) := by
  have hkn := hf.1
  unfold Known at hkn
  have hrl := hr.lt
  have hgl := hr.glt
  have HF := Lib.hid (And.intro hf.2 (And.intro hI (And.intro hJ (And.intro hr hb))))
  have hy : insB bad y = if doneS y.1 y.2 = 0 then bad else rm bad 3 := rfl
  have HY := Lib.hid (And.intro hy (And.intro hBr hBg))
  clear hf hI hJ hr hy hb hBr hBg
  go_enter Try.func84, Try.ntmps84
  go_wp2_with (first
    | (go_at_call 42; refine (new_c S p n c b _ HF.out.2.2.2.2 hp hl hn).mono ?_; rintro e w1 ⟨q, g1, rfl, h1, h2, h3, hc, hb1⟩; have H1 := Lib.hid (And.intro hc hb1); clear hc hb1))
  have hs1 := H1.out.2.size
  refine (HF.out.1 q g1 w1 h1 h3 hs1 (HF.out.2.1 _ H1.out.2) H1.out.1).mono ?_
  rintro e w2 ⟨rfl, hc2, hj2, ho2⟩
  have hcr : Cur w2 r g s bad := (HF.out.2.2.2.1.only (Only.of_below (r := fun _ => False) H1.out.2) (fun h => h) (fun h => h)).only ho2 (by rintro (h | h); omega; exact HY.out.2.1 h) (by rintro (h | h); omega; exact HY.out.2.2 h)
  have hoo : Only (fun b => b = r ∨ B b) w w2 := (Only.of_below (r := fun b => b = r ∨ B b) H1.out.2).trans ho2 (fun _ h => h) (fun x hx h => by rcases h with h | h; omega; exact .inr h)
  have H2 := Lib.hid (And.intro hc2 (And.intro hj2 (And.intro hcr hoo)))
  clear hc2 hj2 hcr hoo ho2
  by_cases hd : doneS y.1 y.2 = 0
  · have hx : insB bad y = bad := by rw [HY.out.1, if_pos hd]
    have HX := Lib.hid hx
    clear hx
    go_wp2_with (first
      | (go_at_call 50; refine (done_c q g1 y.1 y.2 _ H2.out.1).mono ?_; rintro e w3 ⟨rfl, rfl⟩))
    go_end0
    rw [HX.out]
    exact ⟨rfl, H2.out.2.2.1, H2.out.2.1, H2.out.2.2.2⟩
  · have hx : insB bad y = rm bad 3 := by rw [HY.out.1, if_neg hd]
    have HX := Lib.hid hx
    have hdb : (doneS y.1 y.2 != 0) = true := by simpa using hd
    clear hx hd
    go_wp2_with (first
      | (go_at_call 50; refine (done_c q g1 y.1 y.2 _ H2.out.1).mono ?_; rintro e w3 ⟨rfl, rfl⟩)
      | (go_at_call 49; refine (fail_c r g s bad _ H2.out.2.2.1).mono ?_; rintro e w4 ⟨rfl, hc4, ho4⟩))
    go_end0
    rw [HX.out]
    exact ⟨rfl, hc4, HF.out.2.2.1 _ _ H2.out.2.1 ho4, H2.out.2.2.2.then (ho4.mono (fun _ _ h => .inl h))⟩

theorem Reads.mono {M N : Nat} {k : FuncId} {cap : Array Value} {I J : World → Prop} {s : List UInt8} {y : List UInt8 × Int} {B : Nat → Prop} (h : Reads M k cap I s y J B) (hN : M ≤ N) : Reads N k cap I s y J B :=
  ⟨h.1, fun q g w' h1 h2 h3 hI hc => h.2 q g w' (by omega) (by omega) (by omega) hI hc⟩

set_option maxHeartbeats 4000000 in
set_option maxRecDepth 100000 in
theorem within_c (r g : Nat) (s : List UInt8) (bad W : Int) (k : FuncId) (cap : Array Value) (I J : World → Prop) (y : List UInt8 × Int) (B : Nat → Prop) (w : World)
    (hr : Cur w r g s bad) (hl : s.length ≤ 140737488355328) (hI : ∀ w', Only (· = r) w w' → I w') (hJ : ∀ w1 w2, J w1 → Only (· = r) w1 w2 → J w2)
    (hf : Reads w.heap.size k cap I (vecS s bad W 0 65535).1 y J B) (hBr : ¬ B r) (hBg : ¬ B g) :
    Calls Try.prog 80 #[rp r, .int .i64 W, .func (.func k) #[] cap] w (ReadsR w r g ((vecS s bad W 0 65535).2.1, insB (vecS s bad W 0 65535).2.2 y) J B) := by
  have hvo := vecS_out s bad W 0 65535
  have HV := Lib.hid (vector_c r g s bad W 0 65535 w hr hl)
  obtain ⟨b, hb⟩ : ∃ b, b = (vecS s bad W 0 65535).1 := ⟨_, rfl⟩
  obtain ⟨s1, hs1⟩ : ∃ b, b = (vecS s bad W 0 65535).2.1 := ⟨_, rfl⟩
  obtain ⟨b1, hb1⟩ : ∃ b, b = (vecS s bad W 0 65535).2.2 := ⟨_, rfl⟩
  rw [← hb, ← hs1, ← hb1] at HV
  rw [← hb] at hvo hf
  rw [← hs1, ← hb1]
  have HF := Lib.hid (And.intro hf (And.intro hI (And.intro hJ (And.intro hBr hBg))))
  clear hf hI hJ hBr hBg hb hs1 hb1 hr
  go_enter Try.func80, Try.ntmps80
  go_wp2_with (first
    | (go_at_call 45; refine (HV.out).mono ?_; rintro e w1 ⟨g', p, c, rfl, h1, hO, hc, ho⟩; have H1 := Lib.hid (And.intro hO (And.intro hc ho)); clear hO hc ho)
    | (go_at_call 84; refine (inside_c r g s1 b1 (· = g') p b.length c b k cap I J y B _ H1.out.2.1 H1.out.1.rd rfl (by obtain ⟨p', c', he, _, _, _, hp, _⟩ := H1.out.1.form; cases he; exact hp) (by omega) (fun w' hb => HF.out.2.1 w' (H1.out.2.2.then (Only.of_below hb))) HF.out.2.2.1 (HF.out.1.mono H1.out.2.2.size) HF.out.2.2.2.1 HF.out.2.2.2.2).mono ?_; rintro e w2 ⟨rfl, hc2, hj2, ho2⟩))
  go_end0
  exact ⟨rfl, hc2, hj2, (H1.out.2.2.mono (fun _ _ h => .inl h)).then ho2⟩
end Go.Proofs.Ytegmimnhkohaoaa
