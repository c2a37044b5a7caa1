/-
  The contracts of hello.retry and relayref08.Retry: one number, told by both. No condition.
-/
import Derived.Test.YtegmimnhkohaoaaZRSum
import Derived.Test.YtegmimnhkohaoaaZg1
import Derived.Test.YtegmimnhkohaoaaZg2
import Derived.Deep.MidRow
import Derived.Stop.BytesEq
import Derived.WalkKit
import Derived.ProofKit
import Derived.StillTail
import Derived.BigQuiet
import Derived.OrdersHeld
namespace Go.Proofs.Ytegmimnhkohaoaa
open Go.RowKit Go.Kx
set_option linter.unusedVariables false
set_option linter.unusedSimpArgs false

def retryText : List UInt8 := [72, 101, 108, 108, 111, 82, 101, 116, 114, 121, 82, 101, 113, 117, 101, 115, 116]
/-- The random number of a retry. -/
def retryL : List UInt8 := sumL retryText
theorem retryL_len : retryL.length = 32 := sumL_len _
theorem retryL_ne : retryL ≠ List.replicate 32 0 := by decide +kernel

theorem Arr.conv (w : World) (o : Obj) (C : Array Value) : (convert 23 23 (.slice (some ⟨w.heap.size + 1, 0, none⟩) 17 17)).run Try.prog ((w.alloc o).alloc (.cells C 5)) = .ok (.slice (some ⟨w.heap.size + 1, 0, none⟩) 17 17) ((w.alloc o).alloc (.cells C 5 (C.size, C.size + 1))) := by
  have h := Lib.run_convert_bytes_const (P := Try.prog) (w.alloc o) 23 5 C 17 17 Try.underlying23 Try.underlying5
  simpa only [World.size_alloc] using h
theorem retry_rd (w : World) (o : Obj) (m : Nat × Nat) : Rd ((w.alloc o).alloc (.cells (retryText.map B8).toArray 5 m)) (fun _ => True) (some ⟨w.heap.size + 1, 0, none⟩) retryText := by
  have h := Rd.litm (w.alloc o) retryText m
  rw [World.size_alloc] at h
  exact h.mono (fun _ _ _ => trivial)

set_option maxRecDepth 100000 in
set_option maxHeartbeats 4000000 in
theorem retry_c (w : World) : Calls Try.prog 29 #[] w (SumR w retryL) := by
  have hcv := Arr.conv w
  have hz : ∀ m, ArrB ((w.alloc (.cells ((List.replicate 32 (0 : UInt8)).map B8).toArray 22)).alloc (.cells (retryText.map B8).toArray 5 m)) w.heap.size 22 (List.replicate 32 0) := fun m => (ArrB.new w _ _).below ((Below.refl _ _).alloc (Nat.le_refl _) _)
  have hB : ∀ m, Below w.heap.size w ((w.alloc (.cells ((List.replicate 32 (0 : UInt8)).map B8).toArray 22)).alloc (.cells (retryText.map B8).toArray 5 m)) := fun m => (((Below.refl _ _).alloc (Nat.le_refl _) _)).alloc (by simp) _
  have hrr := fun o m => retry_rd w o m
  have HZ := Lib.hid (And.intro hz (And.intro hB hrr))
  clear hz hB hrr
  go_enter Try.func29, Try.ntmps29
  go_upto_region 1 with (fail)
  go_wp2_with (first
    | (go_at_call 66; refine (sum_c (fun _ => True) _ 17 17 retryText _ (HZ.out.2.2 _ _) (by intro h; cases h) (by decide) rfl).mono ?_; rintro e w1 ⟨rfl, b1⟩; have A1 := (HZ.out.1 _).below b1; have HA1 := Lib.hid A1; have HB1 := Lib.hid b1; have L1 := A1.lt; clear A1 b1)
    | (refine st_arrB rfl 22 (.tmp 0) _ rfl w.heap.size retryL rfl rfl _ _ HA1.out (by rw [retryL_len]; exact Try.infoB32) (by rw [retryL_len]; rfl) ?_; intro w7 hA7 hO7))
  refine bodyPost_ret (v := .agg (retryL.map B8).toArray) (results_cell_row (P := Try.prog) Try.results29 _ _ w.heap.size _ _ _ _ rfl hA7 Try.underlying22 rfl (by rw [Try.infoB32]; simp [retryL_len])) rfl (And.intro rfl ?_)
  have h2 := (HZ.out.2.1 _).trans (HB1.out.mono (by simp; omega))
  exact below_only h2 h2.size hO7 (by intro k hk e; omega)

set_option maxRecDepth 100000 in
set_option maxHeartbeats 4000000 in
theorem rretry_c (w : World) : Calls Try.prog 37 #[] w (SumR w retryL) := by
  have hcv := Arr.conv w
  have hz : ∀ m, ArrB ((w.alloc (.cells ((List.replicate 32 (0 : UInt8)).map B8).toArray 22)).alloc (.cells (retryText.map B8).toArray 5 m)) w.heap.size 22 (List.replicate 32 0) := fun m => (ArrB.new w _ _).below ((Below.refl _ _).alloc (Nat.le_refl _) _)
  have hB : ∀ m, Below w.heap.size w ((w.alloc (.cells ((List.replicate 32 (0 : UInt8)).map B8).toArray 22)).alloc (.cells (retryText.map B8).toArray 5 m)) := fun m => (((Below.refl _ _).alloc (Nat.le_refl _) _)).alloc (by simp) _
  have hrr := fun o m => retry_rd w o m
  have HZ := Lib.hid (And.intro hz (And.intro hB hrr))
  clear hz hB hrr
  go_enter Try.func37, Try.ntmps37
  go_upto_region 1 with (fail)
  go_wp2_with (first
    | (go_at_call 75; refine (rsum_c (fun _ => True) _ 17 17 retryText _ (HZ.out.2.2 _ _) (by intro h; cases h) (by decide) rfl).mono ?_; rintro e w1 ⟨rfl, b1⟩; have A1 := (HZ.out.1 _).below b1; have HA1 := Lib.hid A1; have HB1 := Lib.hid b1; have L1 := A1.lt; clear A1 b1)
    | (refine st_arrB rfl 22 (.tmp 0) _ rfl w.heap.size retryL rfl rfl _ _ HA1.out (by rw [retryL_len]; exact Try.infoB32) (by rw [retryL_len]; rfl) ?_; intro w7 hA7 hO7))
  refine bodyPost_ret (v := .agg (retryL.map B8).toArray) (results_cell_row (P := Try.prog) Try.results37 _ _ w.heap.size _ _ _ _ rfl hA7 Try.underlying22 rfl (by rw [Try.infoB32]; simp [retryL_len])) rfl (And.intro rfl ?_)
  have h2 := (HZ.out.2.1 _).trans (HB1.out.mono (by simp; omega))
  exact below_only h2 h2.size hO7 (by intro k hk e; omega)
end Go.Proofs.Ytegmimnhkohaoaa
/-
  A Server (of hello or of the document) by value and in a block; arrays of 32 bytes compared; what the greeting's closures put. No condition but those that each theorem states.
-/
namespace Go.Kx
open Go.RowKit
theorem wpList_load_any {P : Program} {ops : Array Oper} {rest : List Oper} {op : Oper} {a : Act} {w : World} {Q : Exit → Act → World → Prop} (hw : Region.wanted op (yielded ops a.tmps) = true) (ty : TypeId) (x : Operand) (ho : op.op = .load ty x)
    (b o : Nat) (hx : a.eval x = .pointer (some ⟨b, o, none⟩)) (cs : List Value) (d : TypeDesc) (hc : w.rangeAt b o cs) (hu : P.underlying ty = some d) (hd : d.isRow = true) (hi : (P.info? ty).map (·.size) = some cs.length)
    (h : wpList P ops Q rest (a.put op.dst (.agg cs.toArray)) w) : wpList P ops Q (op :: rest) a w :=
  wpList_step fun _ hK => by rw [if_pos hw]; exact wp_load_mid ty x ho b o hx cs d hc hu hd hi (hK _ _ h)
theorem step_load_mid {P : Program} {ops : Array Oper} {w : World} {o : Oper} {a : Act} {K : Act → World → Prop} {Q : Exit → Act → World → Prop} {E : Prop} (hgd : o.guard = none) (ty : TypeId) (x : Operand) (ho : o.op = .load ty x)
    (b k : Nat) (hx : a.eval x = .pointer (some ⟨b, k, none⟩)) (cs : List Value) (d : TypeDesc) (hc : w.rangeAt b k cs) (hu : P.underlying ty = some d) (hd : d.isRow = true) (hi : (P.info? ty).map (·.size) = some cs.length)
    (h : K (a.put o.dst (.agg cs.toArray)) w) : if Region.wanted o (yielded ops a.tmps) = true then Oper.wp P o a w K Q else E := by
  rw [if_pos (by simp [Region.wanted, hgd])]
  exact wp_load_mid ty x ho b k hx cs d hc hu hd hi h
end Go.Kx
namespace Go.Proofs.Ytegmimnhkohaoaa
open Go.RowKit Go.Kx
set_option linter.unusedVariables false
set_option linter.unusedSimpArgs false

/-- What a Server tells. -/
structure Sv where
  R : List UInt8
  ses : List UInt8
  suite : Int
  ver : Int
  grp : Int
  key : List UInt8
  retry : Bool
  cook : List UInt8
  psk : Int
def svC (s : Sv) (a b c : Value) : Array Value := (s.R.map B8 ++ [a, .int .i64 s.suite, .int .i64 s.ver, .int .i64 s.grp, b, .bool s.retry, c, .int .i64 s.psk]).toArray
/-- A slice of bytes below M. -/
def Sl (w : World) (M : Nat) (p : Option Addr) (n c : Nat) (l : List UInt8) : Prop := l.length = n ∧ Rd w (· < M) p l ∧ (p = none → c = 0)
theorem Sl.below {w w' : World} {M : Nat} {p : Option Addr} {n c : Nat} {l : List UInt8} (h : Sl w M p n c l) (hb : Below w.heap.size w w') : Sl w' M p n c l := ⟨h.1, h.2.1.below hb, h.2.2⟩
theorem Sl.only {w w' : World} {M : Nat} {q : Nat → Prop} {p : Option Addr} {n c : Nat} {l : List UInt8} (h : Sl w M p n c l) (ho : Only q w w') (hq : ∀ k, k < M → ¬ q k) : Sl w' M p n c l := ⟨h.1, h.2.1.only ho hq, h.2.2⟩
theorem Sl.mono {w : World} {M N : Nat} {p : Option Addr} {n c : Nat} {l : List UInt8} (h : Sl w M p n c l) (hb : M ≤ N) : Sl w N p n c l := ⟨h.1, h.2.1.mono (fun k _ hk => by omega), h.2.2⟩

/-- Its three slices as a bundle. -/
structure S3 where
  p1 : Option Addr
  n1 : Nat
  c1 : Nat
  p2 : Option Addr
  n2 : Nat
  c2 : Nat
  p3 : Option Addr
  n3 : Nat
  c3 : Nat
/-- The cells. -/
def svV (s : Sv) (z : S3) : Array Value := svC s (.slice z.p1 z.n1 z.c1) (.slice z.p2 z.n2 z.c2) (.slice z.p3 z.n3 z.c3)
structure IsSv (w : World) (M : Nat) (s : Sv) (z : S3) : Prop where
  len : s.R.length = 32
  s1 : Sl w M z.p1 z.n1 z.c1 s.ses
  s2 : Sl w M z.p2 z.n2 z.c2 s.key
  s3 : Sl w M z.p3 z.n3 z.c3 s.cook
theorem IsSv.below {w w' : World} {M : Nat} {s : Sv} {z : S3} (h : IsSv w M s z) (hb : Below w.heap.size w w') : IsSv w' M s z := ⟨h.len, h.s1.below hb, h.s2.below hb, h.s3.below hb⟩
theorem IsSv.only {w w' : World} {M : Nat} {q : Nat → Prop} {s : Sv} {z : S3} (h : IsSv w M s z) (hb : Only q w w') (hq : ∀ k, k < M → ¬ q k) : IsSv w' M s z := ⟨h.len, h.s1.only hb hq, h.s2.only hb hq, h.s3.only hb hq⟩
theorem svV_size {w : World} {M : Nat} {s : Sv} {z : S3} (h : IsSv w M s z) : (svV s z).size = 40 := by simp [svV, svC, h.len]
theorem svV_get {w : World} {M : Nat} {s : Sv} {z : S3} (h : IsSv w M s z) (k : Nat) : (svV s z)[32 + k]? = [.slice z.p1 z.n1 z.c1, .int .i64 s.suite, .int .i64 s.ver, .int .i64 s.grp, .slice z.p2 z.n2 z.c2, .bool s.retry, .slice z.p3 z.n3 z.c3, .int .i64 s.psk][k]? := by
  unfold svV svC
  rw [List.getElem?_toArray, List.getElem?_append_right (by simp [h.len])]
  simp [h.len]
theorem svV_rnd {w : World} {M : Nat} {s : Sv} {z : S3} (h : IsSv w M s z) (k : Nat) (hk : k < 32) : (svV s z)[k]? = some (B8 (s.R[k]'(by rw [h.len]; exact hk))) := by
  unfold svV svC
  rw [List.getElem?_toArray, List.getElem?_append_left (by simp [h.len]; exact hk)]
  simp [h.len, hk]

/-- A block that is a Server. -/
def Blk (w : World) (r t : Nat) (C : Array Value) : Prop := w.heap[r]? = some (.cells C t (0, 0))
theorem Blk.lt {w : World} {r t : Nat} {C : Array Value} (h : Blk w r t C) : r < w.heap.size := (Array.getElem?_eq_some_iff.1 h).1
theorem Blk.below {w w' : World} {r t : Nat} {C : Array Value} (h : Blk w r t C) (hb : Below w.heap.size w w') : Blk w' r t C := (hb.block r h.lt).trans h
theorem Blk.only {w w' : World} {q : Nat → Prop} {r t : Nat} {C : Array Value} (h : Blk w r t C) (hb : Only q w w') (hq : ¬ q r) : Blk w' r t C := (hb.block r h.lt hq).trans h
theorem Blk.new (w : World) (t : Nat) (C : Array Value) : Blk (w.alloc (.cells C t)) w.heap.size t C := heap_alloc_new w _
theorem Blk.c {w : World} {r t : Nat} {C : Array Value} (h : Blk w r t C) (o : Nat) : w.cell? ⟨r, o, none⟩ = C[o]? := by unfold Blk at h; simp [World.cell?, h]
theorem Blk.fr {w : World} {r t : Nat} {C : Array Value} (h : Blk w r t C) (o : Nat) : w.frozen? ⟨r, o, none⟩ = false := by unfold Blk at h; simp [World.frozen?, h]
theorem Blk.range {w : World} {r t : Nat} {C : Array Value} (h : Blk w r t C) : w.rangeAt r 0 C.toList := by
  intro j v hv
  rw [h.c, Nat.zero_add]
  simpa using hv
section
variable {w w' : World} {M r t : Nat} {s : Sv} {z : S3}
theorem Blk.c32 (h : Blk w r t (svV s z)) (i : IsSv w' M s z) : w.cell? ⟨r, 32, none⟩ = some (.slice z.p1 z.n1 z.c1) := (h.c 32).trans (svV_get i 0)
theorem Blk.c33 (h : Blk w r t (svV s z)) (i : IsSv w' M s z) : w.cell? ⟨r, 33, none⟩ = some (.int .i64 s.suite) := (h.c 33).trans (svV_get i 1)
theorem Blk.c34 (h : Blk w r t (svV s z)) (i : IsSv w' M s z) : w.cell? ⟨r, 34, none⟩ = some (.int .i64 s.ver) := (h.c 34).trans (svV_get i 2)
theorem Blk.c35 (h : Blk w r t (svV s z)) (i : IsSv w' M s z) : w.cell? ⟨r, 35, none⟩ = some (.int .i64 s.grp) := (h.c 35).trans (svV_get i 3)
theorem Blk.c36 (h : Blk w r t (svV s z)) (i : IsSv w' M s z) : w.cell? ⟨r, 36, none⟩ = some (.slice z.p2 z.n2 z.c2) := (h.c 36).trans (svV_get i 4)
theorem Blk.c37 (h : Blk w r t (svV s z)) (i : IsSv w' M s z) : w.cell? ⟨r, 37, none⟩ = some (.bool s.retry) := (h.c 37).trans (svV_get i 5)
theorem Blk.c38 (h : Blk w r t (svV s z)) (i : IsSv w' M s z) : w.cell? ⟨r, 38, none⟩ = some (.slice z.p3 z.n3 z.c3) := (h.c 38).trans (svV_get i 6)
theorem Blk.c39 (h : Blk w r t (svV s z)) (i : IsSv w' M s z) : w.cell? ⟨r, 39, none⟩ = some (.int .i64 s.psk) := (h.c 39).trans (svV_get i 7)
theorem Blk.rnd (h : Blk w r t (svV s z)) (i : IsSv w' M s z) : w.rangeAt r 0 (s.R.map B8) := by
  intro j v hv
  simp only [List.getElem?_map, Option.map_eq_some_iff] at hv
  obtain ⟨x, hx, rfl⟩ := hv
  obtain ⟨hj, rfl⟩ := List.getElem?_eq_some_iff.1 hx
  rw [h.c, Nat.zero_add]
  exact svV_rnd i j (by rw [← i.len]; exact hj)
end
theorem Try.infoSv : (Try.prog.info? 33).map (·.size) = some 40 := by kernel_rfl
theorem Try.infoRv : (Try.prog.info? 27).map (·.size) = some 40 := by kernel_rfl

/-! ### Arrays of 32 bytes -/
theorem run_sizeOf1 (w : World) : (sizeOf 5).run Try.prog w = .ok 1 w := by
  have h : (Try.prog.info? 5).map (·.size) = some 1 := by kernel_rfl
  cases hq : Try.prog.info? 5 with
  | none => simp [hq] at h
  | some i =>
    have h2 : i.size = 1 := by simpa [hq] using h
    simp [sizeOf, typeInfo, hq, h2]
theorem Try.guard32 : Try.prog.eqGuardType Try.prog.depth 22 = false := by kernel_rfl
theorem run_eq32 (w : World) (d : Nat) (A B : List UInt8) (hA : A.length = 32) (hB : B.length = 32) : (Op.equalIn (d + 2) 22 (.agg (A.map B8).toArray) (.agg (B.map B8).toArray)).run Try.prog w = .ok (A == B) w :=
  run_equalIn_bytes w d 22 5 32 Try.underlying22 Try.underlying5 run_sizeOf1 A B hA hB

/-! ### What goes together -/
theorem beq_cast (n : Nat) : ((n : Int) == 0) = decide (n = 0) := by by_cases h : n = 0 <;> simp [h]
def fitsS (s : Sv) : Bool := if s.retry then (decide (s.key.length = 0) && decide (s.psk = -1)) && (decide (s.grp ≠ 0) || decide (0 < s.cook.length)) else if s.R = retryL then false else (decide (s.cook.length = 0) && decide (-1 ≤ s.psk)) && (decide (s.grp ≠ 0) || decide (s.key.length = 0))

def BoolR (w : World) (b : Bool) (e : Ending) (w' : World) : Prop := e = .returned (.bool b) ∧ Below w.heap.size w w'
set_option maxHeartbeats 4000000 in
set_option maxRecDepth 100000 in
theorem fits_c (s : Sv) (z : S3) (M : Nat) (w : World) (h : IsSv w M s z) : Calls Try.prog 28 #[.agg (svV s z)] w (BoolR w (fitsS s)) := by
  have hB := Blk.new w 33 (svV s z)
  have hb0 : Below w.heap.size w (w.alloc (.cells (svV s z) 33)) := (Below.refl _ _).alloc (Nat.le_refl _) _
  have c35 := hB.c35 h
  have c36 := hB.c36 h
  have c37 := hB.c37 h
  have c38 := hB.c38 h
  have c39 := hB.c39 h
  have l2 := h.s2.1
  have l3 := h.s3.1
  have HB := Lib.hid (And.intro hB (And.intro hb0 h))
  obtain ⟨re, hre⟩ : ∃ re, re = s.retry := ⟨_, rfl⟩
  obtain ⟨bf, hbf⟩ : ∃ bf, bf = fitsS s := ⟨_, rfl⟩
  rw [← hre] at c37
  rw [← hbf]
  unfold fitsS at hbf
  rw [l2, l3, ← hre] at hbf
  have HBF := Lib.hid hbf
  clear hB hb0 h hbf hre
  cases re
  · go_enter Try.func28, Try.ntmps28
    go_upto_region 3 with (fail)
    have hs := fun w => run_eq32 w 9998 s.R retryL HB.out.2.2.len retryL_len
    have hg := Try.guard32
    obtain ⟨wq, hwq⟩ : ∃ wq, wq = w.alloc (.cells (svV s z) 33) := ⟨_, rfl⟩
    rw [← hwq]
    rw [← hwq] at c35 c36 c37 c38 c39 HB
    have HQ := Lib.hid hwq
    clear hwq
    have hI0 : Blk wq w.heap.size 33 (svV s z) ∧ Below w.heap.size w wq := ⟨HB.out.1, HB.out.2.1⟩
    have hI : Blk wq.drew w.heap.size 33 (svV s z) ∧ Below w.heap.size w wq.drew := ⟨HB.out.1, HB.out.2.1.drew⟩
    go_cut [28] (fun v28 wx => v28 = .bool (s.R == retryL) ∧ Blk wx w.heap.size 33 (svV s z) ∧ Below w.heap.size w wx)
    case first =>
      have hu := Try.underlying22
      have hi : (Try.prog.info? 22).map (·.size) = some (s.R.map B8).length := by rw [List.length_map, HB.out.2.2.len]; exact Try.infoB32
      go_region_held3 (fun w' => w'.rangeAt w.heap.size 0 (s.R.map B8)) (first | exact hI.1.rnd HB.out.2.2 | exact hI0.1.rnd HB.out.2.2) (first
        | (go_at_call 29; refine (retry_c _).mono ?_; rintro e w1 ⟨rfl, b1⟩; have hI2 : Blk w1 w.heap.size 33 (svV s z) ∧ Below w.heap.size w w1 := ⟨hI.1.below b1, hI.2.trans (b1.mono hI.2.size)⟩; clear hI; have hI := hI2; clear hI2))
      all_goals go_wp2
      all_goals go_meet
      all_goals exact ⟨rfl, hI⟩
    case rest =>
      obtain ⟨rfl, hI2⟩ := hcut
      have d35 := hI2.1.c35 HB.out.2.2
      have d36 := hI2.1.c36 HB.out.2.2
      have d38 := hI2.1.c38 HB.out.2.2
      have d39 := hI2.1.c39 HB.out.2.2
      clear hI hI0 c35 c36 c37 c38 c39 hs hg
      have HI := Lib.hid hI2
      clear hI2
      by_cases hR : s.R = retryL
      · have hb : (s.R == retryL) = true := by simpa using hR
        have HR := Lib.hid hR
        clear hR
        go_wp2
        all_goals go_ret
        all_goals (refine ⟨congrArg Ending.returned (congrArg Value.bool ?_), HI.out.2⟩)
        all_goals (have hx := HBF.out; have hr := HR.out; clear d35 d36 d38 d39 HB HBF l2 l3 HI HR; simp_all [beq_cast]; try (intros; omega))
      · have hb : (s.R == retryL) = false := by simpa using hR
        have HR := Lib.hid hR
        clear hR
        go_wp2
        all_goals go_ret
        all_goals (refine ⟨congrArg Ending.returned (congrArg Value.bool ?_), HI.out.2⟩)
        all_goals (have hx := HBF.out; have hr := HR.out; clear d35 d36 d38 d39 HB HBF l2 l3 HI HR; simp_all [beq_cast]; try (intros; omega))
  · go_enter Try.func28, Try.ntmps28
    go_wp2
    all_goals go_ret
    all_goals (refine ⟨congrArg Ending.returned (congrArg Value.bool ?_), HB.out.2.1⟩)
    all_goals (have hx := HBF.out; clear c35 c36 c37 c38 c39 HB HBF l2 l3; simp_all [beq_cast])
end Go.Proofs.Ytegmimnhkohaoaa
/-
  A region that draws its order, from the middle on: what only reads, then what stands in one order. Of any program; no condition but those that the theorem states.
-/
namespace Go.Kx
open Go.RowKit
/-- The operations that have come up are closed, and none of the tail's is among them. -/
def headB (md : Region.Mode) (ops : Array Oper) (n : Nat) (listed : Array Bool) : Bool :=
  decide (listed.size = ops.size) && ((List.range ops.size).all fun j => !(listed.getD j false) || (match ops[j]? with | some oj => oj.after.all fun e => !(Region.binds md e) || listed.getD e.on false | none => true)) && ((List.range ops.size).all fun t => decide (t < n) || !(listed.getD t true))
theorem headInv_of {md : Region.Mode} {ops : Array Oper} {n : Nat} {listed : Array Bool} (h : headB md ops n listed = true) : HeadInv md ops n listed := by
  simp only [headB, Bool.and_eq_true, decide_eq_true_eq, List.all_eq_true, List.mem_range, Bool.or_eq_true, Bool.not_eq_true'] at h
  obtain ⟨⟨h1, h2⟩, h3⟩ := h
  refine ⟨h1, fun j oj hj hl e he hb => ?_, fun t ht htl => ?_⟩
  · have hjl : j < ops.size := (Array.getElem?_eq_some_iff.1 hj).1
    rcases h2 j hjl with h | h
    · rw [hl] at h; cases h
    · simp only [hj] at h
      rw [Array.all_eq_true'] at h
      have := h e he
      simpa [hb] using this
  · rcases h3 t htl with h | h
    · omega
    · exact h
def stillTailB (md : Region.Mode) (ops : Array Oper) (n k : Nat) (listed : Array Bool) : Bool :=
  Region.noSelect ops && decide (n < ops.size) && decide (k ≤ n) && Region.sinkB md ops n && Region.chainB md ops n && headB md ops n listed && Region.lexHead md ops (ops.size - n) (n - k) k listed
theorem wpAny_still_tail {P : Program} {Q : Exit → Act → World → Prop} {a : Act} {w : World} {l : List Oper} (n k : Nat) (listed : Array Bool) (fuel : Nat) (hf : fuel = l.length - k) (hB : stillTailB .any l.toArray n k listed = true)
    (h : wpStill P l.toArray w (fun a' => wpList P l.toArray Q (l.drop n) a' w) ((l.take n).drop k) a) : wpAny P .any l.toArray Q fuel listed a w := by
  simp only [stillTailB, Bool.and_eq_true, decide_eq_true_eq] at hB
  obtain ⟨⟨⟨⟨⟨⟨hsel, hn⟩, hk⟩, hs⟩, hc⟩, hh⟩, hlex⟩ := hB
  have hn' : n < l.length := by simpa using hn
  have htl : ((l.take n).drop k).length = n - k := by simp; omega
  have hdl : (l.drop n).length = l.toArray.size - n := by simp
  have inv0 := headInv_of hh
  have H := wpAnyL_lex (md := .any) (g := l.toArray.size - n) hsel hs hc hn ((l.take n).drop k) k listed a (fun j hj => by
    rw [htl] at hj
    simp only [List.getElem?_drop, List.getElem?_take, List.getElem?_toArray]
    rw [if_pos (by omega)]) (by rw [htl]; omega) inv0 (by rw [htl]; exact hlex) h
  have := wpAny_of_head (Q' := Q) (g := l.toArray.size - n) (fun listed a' hL => by
    have := wpAny_of_seq (md := .any) (Q' := Q) (l.drop n) n listed a' w (fun j => by simp [List.getElem?_drop]) (by rw [hdl]; exact hL.1) hL.2
    rwa [hdl] at this) _ _ _ H
  have e : n - k + (l.toArray.size - n) = fuel := by simp; omega
  rw [htl, e] at this
  exact this
theorem wpStill_of_quiet {P : Program} {ops : Array Oper} {w : World} {Q : Act → Prop} : ∀ (l : List Oper) (a : Act), wpQuiet P ops (fun x => x = w) Q l a → wpStill P ops w Q l a
  | [], _, h => h
  | o :: rest, a, h => by
    unfold wpStill
    unfold wpQuiet at h
    split
    · rename_i hw
      rw [if_pos hw] at h
      obtain ⟨v, h1, h2⟩ := h
      have h3 := h1 w rfl
      have h4 := wpStill_of_quiet rest _ h2
      unfold Oper.quietAt at h3
      unfold Oper.still
      generalize (execOp a.eval o).run P w = r at h3 ⊢
      cases r with
      | ok n w' =>
        cases n <;> simp only [Oper.quietUpon] at h3 <;> simp only [Oper.stillUpon]
        case value u => obtain ⟨rfl, rfl⟩ := h3; exact ⟨rfl, h4⟩
        case skip => obtain ⟨rfl, rfl⟩ := h3; exact ⟨rfl, h4⟩
        case enter f args => exact ⟨h3.1, v, h3.2, h4⟩
      | halt x w' => exact h3.elim
    · rename_i hw
      rw [if_neg hw] at h
      exact wpStill_of_quiet rest _ h
end Go.Kx
/-
  A region that draws its order and ends in a chain of stores: loads are taken first, as long as the chain has not begun. Of any program; no condition but those that the theorem states.
-/
namespace Go.Kx
open Go.RowKit
section
variable {P : Program} {ops : Array Oper} {Q : Exit → Act → World → Prop} {md : Region.Mode} {S : World → Prop} {n : Nat}

/-- Whatever order is picked for the head; S holds behind each of its operations; then T. -/
def wpAnyT (P : Program) (md : Region.Mode) (ops : Array Oper) (Q : Exit → Act → World → Prop) (S : World → Prop) (n : Nat) (T : Array Bool → Act → World → Prop) : Nat → Array Bool → Act → World → Prop
  | 0, listed, a, w => T listed a w
  | f + 1, listed, a, w =>
    Region.ready md ops listed ≠ [] ∧ ∀ i ∈ Region.ready md ops listed, i < n ∧ wpOp P ops Q i (fun a' w' => S w' ∧ wpAnyT P md ops Q S n T f (listed.setIfInBounds i true) a' w') a w

theorem wpAny_of_T {g : Nat} {T : Array Bool → Act → World → Prop} (hT : ∀ listed a w, T listed a w → wpAny P md ops Q g listed a w) :
    ∀ (f : Nat) (listed : Array Bool) (a : Act) (w : World), wpAnyT P md ops Q S n T f listed a w → wpAny P md ops Q (f + g) listed a w
  | 0, listed, a, w, h => by rw [Nat.zero_add]; exact hT _ _ _ h
  | f + 1, listed, a, w, h => by
    rw [show f + 1 + g = (f + g) + 1 by omega]
    exact ⟨fun h0 => absurd h0 h.1, fun i hi => wpOp_mono (fun a' w' h' => wpAny_of_T hT f _ a' w' h'.2) (h.2 i hi).2⟩

theorem wpAnyT_first {T : Array Bool → Act → World → Prop} {i : Nat} {oi : Oper} {v : Value} (hi : ops[i]? = some oi) (hsel : ∀ (j : Nat) (o : Oper) cs b, ops[j]? = some o → o.op ≠ .select cs b)
    (hQ : ∀ c a w, Q (.panic c) (a.put oi.dst v) w → Q (.panic c) a w)
    (hs : Region.sinkB md ops n = true) (hc : Region.chainB md ops n = true) (hn : n < ops.size) (hin : i < n)
    (hdone : ∀ listed a w, T listed a w → ∀ j ∈ Region.ready md ops listed, n ≤ j) :
    ∀ (f : Nat) (listed : Array Bool) (a : Act) (w : World), HeadInv md ops n listed →
      (∀ j oj, ops[j]? = some oj → j ≠ i → listed.getD j true = false → (∀ e ∈ oj.after, Region.binds md e = true → e.on ≠ i) → oi.apart ops oj = true) →
      i ∈ Region.ready md ops listed → YieldsIf P ops S oi v a → S w →
      wpAnyT P md ops Q S n T f (listed.setIfInBounds i true) (a.put oi.dst v) w → wpAnyT P md ops Q S n T (f + 1) listed a w := by
  intro f
  induction f with
  | zero =>
    intro listed a w inv _ hr hy hS H
    have hun := (mem_ready.1 hr).1
    refine ⟨fun h => (by rw [h] at hr; cases hr), fun j hj => ?_⟩
    have hjn : j < n := by
      rcases Nat.lt_or_ge j n with h | h
      · exact h
      · exact absurd hj (tail_waits hs hc hn inv _ i rfl hin hun j h)
    refine ⟨hjn, ?_⟩
    by_cases hji : j = i
    · subst hji; exact hy.wpOp hi hS ⟨hS, H⟩
    · have := hdone _ _ _ H j (ready_mono hj hji)
      omega
  | succ f ih =>
    intro listed a w inv hfree hr hy hS H
    have hun := (mem_ready.1 hr).1
    refine ⟨fun h => (by rw [h] at hr; cases hr), fun j hj => ?_⟩
    have hjn : j < n := by
      rcases Nat.lt_or_ge j n with h | h
      · exact h
      · exact absurd hj (tail_waits hs hc hn inv _ i rfl hin hun j h)
    refine ⟨hjn, ?_⟩
    by_cases hji : j = i
    · subst hji; exact hy.wpOp hi hS ⟨hS, H⟩
    · have h1 := (H.2 j (ready_mono hj hji)).2
      obtain ⟨hjun, oj, hoj, hall⟩ := mem_ready.1 hj
      have hnot : ∀ e ∈ oj.after, Region.binds md e = true → e.on ≠ i := fun e he hb heq => by
        have h1 := hall e he hb
        rw [heq, getD_both hun] at h1
        cases h1
      have h2 := wpOp_putIf hoj (hfree j oj hoj hji hjun hnot) (fun cs b => hsel i oi cs b hi) (fun cs b => hsel j oj cs b hoj) hQ hy h1
      have hfree' : ∀ k ok, ops[k]? = some ok → k ≠ i → (listed.setIfInBounds j true).getD k true = false →
          (∀ e ∈ ok.after, Region.binds md e = true → e.on ≠ i) → oi.apart ops ok = true := fun k ok hk hki hun hno => by
        refine hfree k ok hk hki ?_ hno
        by_cases hjk : j = k
        · subst hjk; exact hjun
        · rw [getD_set_ne true hjk] at hun; exact hun
      refine wpOp_mono (fun a' w' h3 => ⟨h3.2.1, ih (listed.setIfInBounds j true) a' w' (inv.set hj hjn) hfree' (ready_mono hr (Ne.symm hji)) h3.1 h3.2.1 ?_⟩) h2
      rw [Array.setIfInBounds_comm _ _ hji]
      exact h3.2.2

/-- The tail, in its one order. -/
def TailT (P : Program) (ops : Array Oper) (Q : Exit → Act → World → Prop) (n : Nat) (tl : List Oper) (listed : Array Bool) (a : Act) (w : World) : Prop := Region.seqB .any ops tl.length n listed = true ∧ wpList P ops Q tl a w
/-- What a taking asks of the region, as one Bool. -/
def takeB (ops : Array Oper) (n i : Nat) (listed : Array Bool) : Bool :=
  Region.noSelect ops && decide (n < ops.size) && decide (i < n) && Region.sinkB .any ops n && Region.chainB .any ops n && headB .any ops n listed && Region.free .any ops listed i && (Region.ready .any ops listed).contains i
/-- Number i is taken first. -/
theorem wpAnyT_take {tl : List Oper} {i : Nat} {oi : Oper} {v : Value} {fuel : Nat} {listed : Array Bool} {a : Act} {w : World} (hi : ops[i]? = some oi)
    (hB : takeB ops n i listed = true) (hQ : ∀ c a w, Q (.panic c) (a.put oi.dst v) w → Q (.panic c) a w) (hw : Region.wanted oi (yielded ops a.tmps) = true) (hy : ∀ w, S w → (execOp a.eval oi).run P w = .ok (.value v) w) (hS : S w)
    (h : wpAnyT P .any ops Q S n (TailT P ops Q n tl) fuel (listed.setIfInBounds i true) (a.put oi.dst v) w) : wpAnyT P .any ops Q S n (TailT P ops Q n tl) (fuel + 1) listed a w := by
  simp only [takeB, Bool.and_eq_true, decide_eq_true_eq] at hB
  obtain ⟨⟨⟨⟨⟨⟨⟨hsel, hn⟩, hin⟩, hs⟩, hc⟩, hh⟩, hf⟩, hr⟩ := hB
  exact wpAnyT_first hi (Region.noSelect_spec hsel) hQ hs hc hn hin (fun listed a w hT => seqB_ready hT.1) fuel listed a w (headInv_of hh) (Region.free_spec hi hf) (by simpa using hr) (.inl ⟨hw, hy⟩) hS h
/-- Each of rs comes up next. -/
def AllReadyT (P : Program) (ops : Array Oper) (Q : Exit → Act → World → Prop) (S : World → Prop) (n : Nat) (T : Array Bool → Act → World → Prop) (fuel : Nat) (listed : Array Bool) (a : Act) (w : World) (rs : List Nat) : Prop :=
  ∀ i ∈ rs, i < n ∧ wpOp P ops Q i (fun a' w' => S w' ∧ wpAnyT P .any ops Q S n T fuel (listed.setIfInBounds i true) a' w') a w
theorem AllReadyT.nil {T : Array Bool → Act → World → Prop} {fuel : Nat} {listed : Array Bool} {a : Act} {w : World} : AllReadyT P ops Q S n T fuel listed a w [] := fun _ h => by cases h
def ShutT (p : Prop) : Prop := p
theorem ShutT.out {p : Prop} (h : ShutT p) : p := h
theorem AllReadyT.cons {T : Array Bool → Act → World → Prop} {fuel : Nat} {listed : Array Bool} {a : Act} {w : World} {i : Nat} {o : Oper} {rs : List Nat} (ho : ops[i]? = some o) (hin : i < n)
    (h : ∀ K' : Act → World → Prop, ShutT (∀ a w, S w → wpAnyT P .any ops Q S n T fuel (listed.setIfInBounds i true) a w → K' a w) → if Region.wanted o (yielded ops a.tmps) = true then Oper.wp P o a w K' Q else K' (a.put o.dst undef) w)
    (hs : AllReadyT P ops Q S n T fuel listed a w rs) : AllReadyT P ops Q S n T fuel listed a w (i :: rs) := fun j hj => by
  rcases List.mem_cons.1 hj with rfl | hj
  · exact ⟨hin, wpOp_step ho (fun K' hK => h K' (fun a w hS hW => hK a w ⟨hS, hW⟩))⟩
  · exact hs j hj
theorem wpAnyT_ready {T : Array Bool → Act → World → Prop} {rs : List Nat} {fuel : Nat} {listed : Array Bool} {a : Act} {w : World} (hr : Region.ready .any ops listed = rs) (hne : rs ≠ [])
    (h : AllReadyT P ops Q S n T fuel listed a w rs) : wpAnyT P .any ops Q S n T (fuel + 1) listed a w := ⟨by rw [hr]; exact hne, by rw [hr]; exact h⟩
theorem wpAnyT_tail {tl : List Oper} {listed : Array Bool} {a : Act} {w : World} (hB : Region.seqB .any ops tl.length n listed = true) (h : wpList P ops Q tl a w) : wpAnyT P .any ops Q S n (TailT P ops Q n tl) 0 listed a w := ⟨hB, h⟩
end
/-- A region whose operations from n on are its tail. -/
theorem wp_region_tail {P : Program} {l : List Oper} {Q : Exit → Act → World → Prop} {id : Nat} {a : Act} {w : World} (S : World → Prop) (n : Nat) (hm : P.follows .mixedOrders = true) (hn : n ≤ l.length)
    (h : wpAnyT P .any l.toArray Q S n (TailT P l.toArray Q n (l.drop n)) n (Array.replicate l.toArray.size false) a w.drew) : (Code.region id l.toArray true).wp P Q a w := by
  refine wp_region_any hm ?_
  have hdl : (l.drop n).length = l.toArray.size - n := by simp
  have := wpAny_of_T (g := l.toArray.size - n) (fun listed a' w' hT => by
    have := wpAny_of_seq (md := .any) (Q' := Q) (l.drop n) n listed a' w' (fun j => by simp [List.getElem?_drop]) hT.1 hT.2
    rwa [hdl] at this) _ _ _ _ h
  have e : n + (l.toArray.size - n) = l.toArray.size := by simp; omega
  rw [e] at this
  exact this
end Go.Kx
/-
  append onto a row of the call's own, as one step of a region that draws: a nil row changes nothing that lay there. Of any program; no condition but those that the theorem states.
-/
namespace Go.Kx
open Go.RowKit
theorem step_append_own {P : Program} {ops : Array Oper} {w : World} {o : Oper} {a : Act} {K : Act → World → Prop} {Q : Exit → Act → World → Prop} {E : Prop} (hgd : o.guard = none) (s x : Operand) (t : TypeId)
    (ho : o.op = .call { callee := .builtin .append, args := #[s, x], argTypes := #[t, t] }) (e : TypeId) (z : Value) (size bytes : Nat) (ht : P.underlying t = some (.slice e))
    (hinfo : (P.info? e).map (fun i => (i.zero, i.size, i.bytes)) = some (some z, size, bytes)) (hzs : z.cells.size = size) (hsz : 0 < size)
    (v : Value) (n : Nat) (xs : List Value) (hs : a.eval s = v) (hown : w.ownsRow 0 e size v n xs)
    (ad : Addr) (m c : Nat) (news : List Value) (hx : a.eval x = .slice (some ad) m c) (hl : news.length = m * size) (hnews : ∀ j u, news[j]? = some u → w.cell? (ad.add j) = some u) (h1 : ∀ u ∈ news, u.oneCell' = true)
    (h63 : n + m ≤ maxLen) (hbytes : (n + m) * bytes ≤ 140737488355328)
    (h : ∀ g' v' w', Row w' e size g' v' (n + m) (xs ++ news) → (v.ownBlock = some g' ∨ g' = w.heap.size) → Only (fun k => v.ownBlock = some k) w w' → K (a.put o.dst v') w') :
    if Region.wanted o (yielded ops a.tmps) = true then Oper.wp P o a w K Q else E := by
  have hw : Region.wanted o (yielded ops a.tmps) = true := by simp [Region.wanted, hgd]
  rw [if_pos hw]
  cases hb : v.ownBlock with
  | none =>
    obtain ⟨g', v', w', hr, hrow, hg', hgr, _⟩ := run_append_row (P := P) w t o.type e z size bytes ht hinfo hzs hsz w.heap.size v n xs ⟨hown, .inl hb⟩ ad m c news hl hnews h1 h63 hbytes
    exact wp_append_run w s x t ho v _ hs hx hr (h g' v' w' hrow (.inr (by omega)) ((Only.of_grown hgr).mono fun k _ hk => hk.symm))
  | some g =>
    obtain ⟨g', v', w', hr, hrow, hg', hgr, _⟩ := run_append_row (P := P) w t o.type e z size bytes ht hinfo hzs hsz g v n xs ⟨hown, .inr hb⟩ ad m c news hl hnews h1 h63 hbytes
    exact wp_append_run w s x t ho v _ hs hx hr (h g' v' w' hrow (by rcases hg' with rfl | h; exact .inl hb; exact .inr h) ((Only.of_grown hgr).mono fun k _ hk => hk.symm))
theorem owns_only {w w' : World} {r : Nat → Prop} {e : TypeId} {sz : Nat} {v : Value} {n : Nat} {xs : List Value} (h : w.ownsRow 0 e sz v n xs) (ho : Only r w w') (hd : ∀ k, v.ownBlock = some k → ¬ r k) : w'.ownsRow 0 e sz v n xs := by
  cases hb : v.ownBlock with
  | none =>
    obtain ⟨h1, h2⟩ := h
    rcases h2 with h2 | ⟨g', cap, cur, rfl, hb', hg, rest⟩
    · exact ⟨h1, .inl h2⟩
    · cases hb
  | some g => exact (Row.only (g := g) ⟨h, .inr hb⟩ ho (hd g hb)).1
/-- A new block: the world behind it under a name of its own. -/
theorem wpAnyT_alloc {P : Program} {md : Region.Mode} {ops : Array Oper} {Q : Exit → Act → World → Prop} {S : World → Prop} {n : Nat} {T : Array Bool → Act → World → Prop} {f : Nat} {listed : Array Bool} {a : Act} {wx : World} {C : Array Value} {t : Nat}
    (h : ∀ wy, Below wx.heap.size wx wy → Go.Proofs.Ytegmimnhkohaoaa.Blk wy wx.heap.size t C → wpAnyT P md ops Q S n T f listed a wy) : wpAnyT P md ops Q S n T f listed a (wx.alloc (.cells C t)) :=
  h _ ((Below.refl _ _).alloc (Nat.le_refl _) _) (Go.Proofs.Ytegmimnhkohaoaa.Blk.new _ _ _)
end Go.Kx
/-
  The contract of hello.PutServer. No condition.
-/
namespace Go.Proofs.Ytegmimnhkohaoaa
open Go.RowKit Go.Kx
set_option linter.unusedVariables false
set_option linter.unusedSimpArgs false

attribute [local irreducible] wV wU wS
theorem nil_le : (([], false) : WS).1.length ≤ 70368744177664 := Nat.zero_le _
theorem nil_le4 : (([], false) : WS).1.length + 4 ≤ 70368744177664 := by rw [List.length_nil]; omega
theorem knownA1 : Known 70 := fun _ _ => by kernel_rfl
theorem knownA2 : Known 71 := fun _ _ => by kernel_rfl
theorem knownA3 : Known 73 := fun _ _ => by kernel_rfl
theorem knownA4 : Known 74 := fun _ _ => by kernel_rfl
theorem knownP1 : Known 33 := fun _ _ => by kernel_rfl

/-- What the closures put. -/
def yA1 (s : Sv) : WS := wU ([], false) s.ver 2
def yA2 (s : Sv) : WS := if s.retry then wU ([], false) s.grp 2 else wS ([], false) s.grp s.key
def yA3 (s : Sv) : WS := wV ([], false) s.cook 2 1 64
def yA4 (s : Sv) : WS := wU ([], false) s.psk 2

theorem a1_c (s : Sv) (z : S3) (M q : Nat) (w : World) (h : IsSv w M s z) (hB : Blk w q 33 (svV s z)) : Puts w 70 (rp q) (yA1 s) := by
  refine ⟨knownA1, fun r w1 hr hb hW => ?_⟩
  have c34 := (hB.below hb).c34 h
  go_enter Try.func70, Try.ntmps70
  go_wp2_with (go_at_call 30; refine (wuint_c r _ s.ver 2 _ hW nil_le).mono ?_; rintro e w2 ⟨rfl, hX, ho⟩)
  go_end0
  exact ⟨rfl, hX, ho⟩
theorem a4_c (s : Sv) (z : S3) (M q : Nat) (w : World) (h : IsSv w M s z) (hB : Blk w q 33 (svV s z)) : Puts w 74 (rp q) (yA4 s) := by
  refine ⟨knownA4, fun r w1 hr hb hW => ?_⟩
  have c39 := (hB.below hb).c39 h
  go_enter Try.func74, Try.ntmps74
  go_wp2_with (go_at_call 30; refine (wuint_c r _ s.psk 2 _ hW nil_le).mono ?_; rintro e w2 ⟨rfl, hX, ho⟩)
  go_end0
  exact ⟨rfl, hX, ho⟩
theorem a3_c (s : Sv) (z : S3) (M q : Nat) (w : World) (h : IsSv w M s z) (hM : M ≤ w.heap.size) (hB : Blk w q 33 (svV s z)) : Puts w 73 (rp q) (yA3 s) := by
  refine ⟨knownA3, fun r w1 hr hb hW => ?_⟩
  have c38 := (hB.below hb).c38 h
  have H3 := Lib.hid ((h.s3.below hb))
  clear h hb
  go_enter Try.func73, Try.ntmps73
  go_wp2_with (go_at_call 31; refine (wvec_c r _ _ _ _ s.cook 2 1 64 _ hW H3.out.1 (H3.out.2.1.mono (fun k _ hk => by omega)) H3.out.2.2 (by decide) nil_le).mono ?_; rintro e w2 ⟨rfl, hX, ho⟩)
  go_end0
  exact ⟨rfl, hX, ho⟩
theorem a2_c (s : Sv) (z : S3) (M q : Nat) (w : World) (h : IsSv w M s z) (hM : M ≤ w.heap.size) (hB : Blk w q 33 (svV s z)) : Puts w 71 (rp q) (yA2 s) := by
  refine ⟨knownA2, fun r w1 hr hb hW => ?_⟩
  have c35 := (hB.below hb).c35 h
  have c36 := (hB.below hb).c36 h
  have c37 := (hB.below hb).c37 h
  have H2 := Lib.hid ((h.s2.below hb))
  obtain ⟨re, hre⟩ : ∃ re, re = s.retry := ⟨_, rfl⟩
  have hy : yA2 s = if re then wU ([], false) s.grp 2 else wS ([], false) s.grp s.key := by rw [hre]; rfl
  have HY := Lib.hid hy
  rw [← hre] at c37
  clear h hb hre hy
  cases re
  · go_enter Try.func71, Try.ntmps71
    go_wp2_with (go_at_call 72; refine (wshare_c r _ s.grp _ _ _ s.key _ hW nil_le4 H2.out.1 (H2.out.2.1.mono (fun k _ hk => by omega)) H2.out.2.2).mono ?_; rintro e w2 ⟨rfl, hX, ho⟩)
    go_end0
    rw [HY.out, if_neg Bool.false_ne_true]
    exact ⟨rfl, hX, ho⟩
  · go_enter Try.func71, Try.ntmps71
    go_wp2_with (go_at_call 30; refine (wuint_c r _ s.grp 2 _ hW nil_le).mono ?_; rintro e w2 ⟨rfl, hX, ho⟩)
    go_end0
    rw [HY.out, if_pos trivial]
    exact ⟨rfl, hX, ho⟩

theorem wP_len (x y : WS) (kind : Int) (there : Bool) : (wP x kind there y).1.length ≤ x.1.length + 65541 := by
  unfold wP
  split
  · have h1 := wV_len (wU (wM x (!y.2)) kind 2) y.1 2 0 65535 (by decide)
    have h2 := wU_len (wM x (!y.2)) kind 2 (by decide)
    have h3 : (wM x (!y.2)).1.length = x.1.length := rfl
    omega
  · omega
/-- The extensions of a Server. -/
def wA (x : WS) (s : Sv) : WS := wP (wP (wP (wP x 43 true (yA1 s)) 51 (s.grp != 0) (yA2 s)) 44 (s.retry && decide (0 < s.cook.length)) (yA3 s)) 41 (decide (0 ≤ s.psk)) (yA4 s)
attribute [local irreducible] wP wN yA1 yA2 yA3 yA4

set_option maxHeartbeats 4000000 in
set_option maxRecDepth 100000 in
theorem answers_c (r : Nat) (x : WS) (s : Sv) (z : S3) (M : Nat) (w : World) (hr : Wr w r x) (hl : x.1.length + 300000 ≤ 70368744177664) (h : IsSv w M s z) (hMr : M ≤ r) : Calls Try.prog 34 #[rp r, .agg (svV s z)] w (WrR w r (wA x s)) := by
  have hlt := hr.lt
  have hB := Blk.new w 33 (svV s z)
  have hb0 : Below w.heap.size w (w.alloc (.cells (svV s z) 33)) := (Below.refl _ _).alloc (Nat.le_refl _) _
  have c35 := hB.c35 h
  have c37 := hB.c37 h
  have c38 := hB.c38 h
  have c39 := hB.c39 h
  have h1 := wP_len x (yA1 s) 43 true
  have h2 := wP_len (wP x 43 true (yA1 s)) (yA2 s) 51 (s.grp != 0)
  have h3 := wP_len (wP (wP x 43 true (yA1 s)) 51 (s.grp != 0) (yA2 s)) (yA3 s) 44 (s.retry && decide (0 < s.cook.length))
  have hws : wA x s = wP (wP (wP (wP x 43 true (yA1 s)) 51 (s.grp != 0) (yA2 s)) 44 (s.retry && decide (0 < s.cook.length)) (yA3 s)) 41 (decide (0 ≤ s.psk)) (yA4 s) := rfl
  obtain ⟨x1, hx1⟩ : ∃ x1, x1 = wP x 43 true (yA1 s) := ⟨_, rfl⟩
  rw [← hx1] at h1 h2 h3 hws
  obtain ⟨x2, hx2⟩ : ∃ x2, x2 = wP x1 51 (s.grp != 0) (yA2 s) := ⟨_, rfl⟩
  rw [← hx2] at h2 h3 hws
  obtain ⟨x3, hx3⟩ : ∃ x3, x3 = wP x2 44 (s.retry && decide (0 < s.cook.length)) (yA3 s) := ⟨_, rfl⟩
  rw [← hx3] at h3 hws
  have l3 := h.s3.1
  rw [l3] at hx3
  have HX := Lib.hid (And.intro hx1 (And.intro hx2 (And.intro hx3 hws)))
  have HB := Lib.hid (And.intro hB (And.intro (h.below hb0) (And.intro hb0 (hr.below hb0))))
  have hsz : (w.alloc (.cells (svV s z) 33)).heap.size = w.heap.size + 1 := World.size_alloc _ _
  clear hB hb0 h hr hx1 hx2 hx3 hws l3
  obtain ⟨w0, hw0⟩ : ∃ w0, w0 = w.alloc (.cells (svV s z) 33) := ⟨_, rfl⟩
  rw [← hw0] at c35 c37 c38 c39 HB hsz
  go_enter Try.func34, Try.ntmps34
  go_upto_region 1 with (fail)
  rw [← hw0]
  clear hw0
  have hst : ∀ (wa wb : World) (x' : WS), Blk wa w.heap.size 33 (svV s z) ∧ IsSv wa M s z ∧ w.heap.size < wa.heap.size → Wr wb r x' → Only (· = r) wa wb → Blk wb w.heap.size 33 (svV s z) ∧ IsSv wb M s z ∧ w.heap.size < wb.heap.size := by
    rintro wa wb x' ⟨h1, h2, h3⟩ h4 h5
    have := h5.size
    exact ⟨h1.only h5 (by omega), h2.only h5 (by intro k hk e; omega), by omega⟩
  have HST := Lib.hid hst
  clear hst
  go_wp2_with fail
  refine (wpart_c r x (yA1 s) 43 true _ _ _ HB.out.2.2.2 (by omega) (fun _ => a1_c s z M w.heap.size _ HB.out.2.1 HB.out.1)).mono ?_
  rintro e w1 ⟨rfl, hX1, ho1⟩
  rw [← HX.out.1] at hX1
  have hI1 := HST.out w0 w1 x1 ⟨HB.out.1, HB.out.2.1, by omega⟩ hX1 ho1
  have I1 := Lib.hid (And.intro hX1 (And.intro ((Only.of_below HB.out.2.2.1).then ho1) hI1))
  have c35 := hI1.1.c35 hI1.2.1
  clear hX1 ho1 hI1
  go_wp2_with fail
  refine (wpart_c r x1 (yA2 s) 51 _ _ _ _ I1.out.1 (by omega) (fun _ => a2_c s z M w.heap.size _ I1.out.2.2.2.1 (by have := I1.out.2.2.2.2; omega) I1.out.2.2.1)).mono ?_
  rintro e w2 ⟨rfl, hX2, ho2⟩
  rw [← HX.out.2.1] at hX2
  have hI2 := HST.out w1 w2 x2 I1.out.2.2 hX2 ho2
  have I2 := Lib.hid (And.intro hX2 (And.intro (I1.out.2.1.then ho2) hI2))
  have d37 := hI2.1.c37 hI2.2.1
  have d38 := hI2.1.c38 hI2.2.1
  clear hX2 ho2 hI2
  have hre : ∀ b, s.retry = b → x3 = wP x2 44 (b && decide (0 < z.n3)) (yA3 s) := by intro b hb; rw [HX.out.2.2.1, hb]
  have HRE := Lib.hid hre
  clear hre c35 c37 c38 c39
  obtain ⟨re, hre⟩ : ∃ re, re = s.retry := ⟨_, rfl⟩
  rw [← hre] at d37
  have HR2 := Lib.hid (HRE.out re hre.symm)
  clear hre HRE
  cases re <;> (
    go_wp2_with fail
    refine (wpart_c r x2 (yA3 s) 44 _ _ _ _ I2.out.1 (by omega) (fun _ => a3_c s z M w.heap.size _ I2.out.2.2.2.1 (by have := I2.out.2.2.2.2; omega) I2.out.2.2.1)).mono ?_
    rintro e w3 ⟨rfl, hX3, ho3⟩
    have hx3 := HR2.out
    simp only [Bool.false_and, Bool.true_and] at hx3
    rw [← hx3] at hX3
    clear hx3
    have hI3 := HST.out w2 w3 x3 I2.out.2.2 hX3 ho3
    have I3 := Lib.hid (And.intro hX3 (And.intro (I2.out.2.1.then ho3) hI3))
    have e39 := hI3.1.c39 hI3.2.1
    clear hX3 ho3 hI3
    go_wp2_with fail
    refine (wpart_c r x3 (yA4 s) 41 _ _ _ _ I3.out.1 (by omega) (fun _ => a4_c s z M w.heap.size _ I3.out.2.2.2.1 I3.out.2.2.1)).mono ?_
    rintro e w4 ⟨rfl, hX4, ho4⟩
    go_wp2
    go_end0
    rw [HX.out.2.2.2]
    exact ⟨rfl, hX4, I3.out.2.1.then ho4⟩)

set_option maxHeartbeats 4000000 in
set_option maxRecDepth 100000 in
theorem p1_c (s : Sv) (z : S3) (M q : Nat) (w : World) (h : IsSv w M s z) (hM : M ≤ w.heap.size) (hB : Blk w q 33 (svV s z)) : Puts w 33 (rp q) (wA ([], false) s) := by
  refine ⟨knownP1, fun r w1 hr hb hW => ?_⟩
  have HB := Lib.hid (And.intro (hB.below hb) (h.below hb))
  have hsz := svV_size h
  clear h hb hB
  go_enter Try.func33, Try.ntmps33
  go_wp2_with (first
    | (refine wpList_load_mid rfl 33 (.tmp 1) rfl q 0 rfl (svV s z).toList _ HB.out.1.range Try.underlying33 rfl (by rw [Array.length_toList, hsz]; exact Try.infoSv) ?_; rw [Array.toArray_toList])
    | (go_at_call 34; refine (answers_c r _ s z M _ hW (by rw [List.length_nil]; omega) HB.out.2 (by omega)).mono ?_; rintro e w2 ⟨rfl, hX, ho⟩))
  go_end0
  exact ⟨rfl, hX, ho⟩

/-- The greeting of a server, as the writer has it at the end. -/
def rndS (s : Sv) : List UInt8 := if s.retry then retryL else s.R
def putS (s : Sv) : WS :=
  let x2 := wU (wM ([], false) (fitsS s)) 771 2
  wN (wU (wU (wV (x2.1 ++ rndS s, x2.2) s.ses 1 0 32) s.suite 2) 0 1) (wA ([], false) s) 2

/-- What a Put tells. -/
def PutR (w : World) (x : WS) (e : Ending) (w' : World) : Prop := ((x.2 = true ∧ e = .returned (.tuple #[.slice none 0 0, .int .i64 1])) ∨ (x.2 = false ∧ ∃ g p n c, e = .returned (.tuple #[.slice p n c, .int .i64 0]) ∧ x.1.length = n ∧ w.heap.size ≤ g ∧ Own w' g (.slice p n c) x.1)) ∧ Below w.heap.size w w'

theorem ArrB.news {w : World} {r t : Nat} {xs : List UInt8} (h : ArrB w r t xs) : ∀ j u, (xs.map B8)[j]? = some u → w.cell? ((⟨r, 0, none⟩ : Addr).add j) = some u := by
  intro j u hu
  simp only [List.getElem?_map, Option.map_eq_some_iff] at hu
  obtain ⟨x, hx, rfl⟩ := hu
  obtain ⟨hj, rfl⟩ := List.getElem?_eq_some_iff.1 hx
  have e : (⟨r, 0, none⟩ : Addr).add j = ⟨r, 0 + j, none⟩ := by unfold Addr.add; split <;> simp_all
  rw [e, Nat.zero_add]
  exact h.c j hj
/-- A writer that stands in a new block, below which nothing turned. -/
def WB (w wx : World) (r : Nat) (x : WS) : Prop := Wr wx r x ∧ Below w.heap.size w wx ∧ w.heap.size ≤ r
theorem WB.step {w wx wy : World} {r : Nat} {x y : WS} (h : WB w wx r x) (h1 : Wr wy r y) (h2 : Only (· = r) wx wy) : WB w wy r y := ⟨h1, below_only h.2.1 h.2.1.size h2 (by intro k hk e; have := h.2.2; omega), h.2.2⟩

set_option maxHeartbeats 4000000 in
set_option maxRecDepth 100000 in
theorem putServer_c (s : Sv) (z : S3) (M : Nat) (w : World) (h : IsSv w M s z) (hM : M ≤ w.heap.size) : Calls Try.prog 9 #[.agg (svV s z)] w (PutR w (putS s)) := by
  have hB := Blk.new w 33 (svV s z)
  have hb0 : Below w.heap.size w (w.alloc (.cells (svV s z) 33)) := (Below.refl _ _).alloc (Nat.le_refl _) _
  have hsz := svV_size h
  have hz0 := World.size_alloc w (.cells (svV s z) 33)
  have hnew := Wr.new (w.alloc (.cells (svV s z) 33))
  have hb1 : Below (w.heap.size + 1) (w.alloc (.cells (svV s z) 33)) ((w.alloc (.cells (svV s z) 33)).alloc (.cells #[.slice none 0 0, .bool false] 80)) := (Below.refl _ _).alloc (by rw [hz0]; exact Nat.le_refl _) _
  rw [hz0] at hnew
  rw [← hz0] at hb1
  have hI : Blk ((w.alloc (.cells (svV s z) 33)).alloc (.cells #[.slice none 0 0, .bool false] 80)) w.heap.size 33 (svV s z) ∧ WB w ((w.alloc (.cells (svV s z) 33)).alloc (.cells #[.slice none 0 0, .bool false] 80)) (w.heap.size + 1) ([], false) :=
    ⟨hB.below hb1, hnew, hb0.trans (hb1.mono hb0.size), by omega⟩
  clear hB hb0 hnew hb1
  go_enter Try.func9, Try.ntmps9
  go_upto_region 2 with (fail)
  generalize (w.alloc (.cells (svV s z) 33)).alloc (.cells #[.slice none 0 0, .bool false] 80) = w1 at hI ⊢
  have hIs := h.below hI.2.2.1
  have H1 := Lib.hid (And.intro hI hIs)
  have hM1 := hI.2.2.1.size
  clear hI hIs
  go_upto_region 3 with (first
    | (refine wpList_load_mid rfl 33 (.tmp 1) rfl w.heap.size 0 rfl (svV s z).toList _ H1.out.1.1.range Try.underlying33 rfl (by rw [Array.length_toList, hsz]; exact Try.infoSv) ?_; rw [Array.toArray_toList])
    | (go_at_call 28; refine (fits_c s z M _ H1.out.2).mono ?_; rintro e w2 ⟨rfl, b2⟩; have H2 := Lib.hid (And.intro (H1.out.1.1.below b2) (And.intro (H1.out.1.2.1.below b2) (And.intro (H1.out.1.2.2.1.trans (b2.mono H1.out.1.2.2.1.size)) (H1.out.2.below b2)))); clear b2)
    | (go_at_call 27; refine (wr_must _ (fitsS s) ([], false) _ H2.out.2.1).mono ?_; rintro e w3 ⟨rfl, hX, ho⟩; have H3 := Lib.hid (And.intro (show WB w w3 (w.heap.size + 1) (wM ([], false) (fitsS s)) from (show WB w w2 (w.heap.size + 1) ([], false) from ⟨H2.out.2.1, H2.out.2.2.1, by omega⟩).step hX ho) (And.intro (H2.out.1.only ho (by omega)) (H2.out.2.2.2.only ho (by intro k hk e; omega)))); clear hX ho))
  clear H1 H2
  have hx0 : (wM ([], false) (fitsS s)).1.length = 0 := rfl
  have hput : putS s = wN (wU (wU (wV ((wU (wM ([], false) (fitsS s)) 771 2).1 ++ rndS s, (wU (wM ([], false) (fitsS s)) 771 2).2) s.ses 1 0 32) s.suite 2) 0 1) (wA ([], false) s) 2 := rfl
  have HPUT := Lib.hid hput
  clear hput
  generalize wM ([], false) (fitsS s) = x1 at *
  have hM3 := H3.out.1.2.1.size
  have hr3 := H3.out.1.1.lt
  have hb3 : w.heap.size < w3.heap.size := by omega
  have hZ := (ArrB.new w3 22 (List.replicate 32 0))
  have hB3 : Below w3.heap.size w3 (w3.alloc (.cells ((List.replicate 32 (0 : UInt8)).map B8).toArray 22)) := (Below.refl _ _).alloc (Nat.le_refl _) _
  have HZ := Lib.hid (And.intro hZ hB3)
  clear hZ hB3
  go_upto_region 4 with (first
    | (refine wpList_load_mid rfl 22 (.tmp 12) rfl w.heap.size 0 rfl (s.R.map B8) _ (H3.out.2.1.rnd h) Try.underlying22 rfl (by rw [List.length_map, h.len]; exact Try.infoB32) ?_)
    | (refine st_arrB rfl 22 (.tmp 5) _ rfl w3.heap.size s.R rfl rfl _ _ HZ.out.1 (by rw [h.len]; exact Try.infoB32) (by rw [h.len]; rfl) ?_; intro w5 hA5 hO5))
  have hB5 : Below w3.heap.size w3 w5 := below_only HZ.out.2 HZ.out.2.size hO5 (by intro k hk e; omega)
  have hs5 := hB5.size
  have c37 := (H3.out.2.1.below hB5).c37 h
  have H5 := Lib.hid (And.intro hA5 hB5)
  clear hA5 hO5 hB5
  obtain ⟨re, hre⟩ : ∃ re, re = s.retry := ⟨_, rfl⟩
  have hrn : rndS s = if re then retryL else s.R := by rw [hre]; rfl
  rw [← hre] at c37
  have HRN := Lib.hid hrn
  clear hrn hre
  go_upto_if 15 with (fail)
  go_cut [16] (fun v16 wx => ArrB wx w3.heap.size 22 (rndS s) ∧ Below w3.heap.size w3 wx)
  case first =>
    cases re
    · go_wp2
      go_meet
      rw [HRN.out, if_neg Bool.false_ne_true]
      exact H5.out
    · go_wp2_with (first
        | (go_at_call 29; refine (retry_c _).mono ?_; rintro e w6 ⟨rfl, b6⟩; have hA6 := H5.out.1.below b6; have HA6 := Lib.hid (And.intro hA6 b6); clear hA6 b6)
        | (refine st_arrB rfl 22 (.tmp 5) _ rfl w3.heap.size retryL rfl rfl _ _ HA6.out.1 (by rw [retryL_len]; exact Try.infoB32) (by rw [retryL_len]; exact h.len) ?_; intro w7 hA7 hO7))
      go_meet
      rw [HRN.out, if_pos trivial]
      have b6 := H5.out.2.trans (HA6.out.2.mono hs5)
      exact ⟨hA7, below_only b6 b6.size hO7 (by intro k hk e; omega)⟩
  case rest =>
    obtain ⟨wa, rfl⟩ : ∃ wa : World, wa = wc := ⟨_, rfl⟩
    obtain ⟨hA, hB⟩ := hcut
    have hlr : (rndS s).length = 32 := by unfold rndS; split; exact retryL_len; exact h.len
    have hW := H3.out.1.1.below hB
    have hsa := hB.size
    have HA := Lib.hid (And.intro hA (And.intro (show WB w wa (w.heap.size + 1) x1 from ⟨hW, H3.out.1.2.1.trans (hB.mono H3.out.1.2.1.size), by omega⟩) (And.intro (H3.out.2.1.below hB) (H3.out.2.2.below hB))))
    clear hA hB hW c37 H5 H3 HZ
    have hl2 := wU_len x1 771 2 (by decide)
    go_upto_region 7 with (go_at_call 30; refine (wuint_c _ x1 771 2 _ HA.out.2.1.1 (by omega)).mono ?_; rintro e w2 ⟨rfl, hX, ho⟩; have H2 := Lib.hid (And.intro (HA.out.1.only ho (by omega)) (And.intro (HA.out.2.1.step hX ho) (And.intro (HA.out.2.2.1.only ho (by omega)) (HA.out.2.2.2.only ho (by intro k hk e; omega))))); clear hX ho)
    obtain ⟨g, p, n, c, hbx, hn, hrg, hO⟩ := H2.out.2.1.1.ex
    have c0 := hbx.c0
    have f0 := hbx.fr 0
    have hs2 := H2.out.1.lt
    have hn2 : n ≤ 100 := by omega
    have HN := Lib.hid (ArrB.news H2.out.1)
    have HO := Lib.hid (And.intro (hO.row hn) (And.intro hbx hn))
    have hm32 : ((rndS s).map B8).length = 32 * 1 := by rw [List.length_map, hlr]
    have HM := Lib.hid hm32
    clear hO hbx hn hm32
    go_region_law ((refine step_append_row rfl _ _ 23 rfl 5 (.int .u8 0) 1 1 Try.underlying23 Try.info5 rfl (by decide) g (.slice p n c) n ((wU x1 771 2).1.map B8) (by simp [Act.eval, Act.put]) HO.out.1 ⟨w3.heap.size, 0, none⟩ 32 32 ((rndS s).map B8) (by simp [Act.eval, Act.put]) HM.out HN.out (oneCell_map _) (by simp only [maxLen]; omega) (by omega) w2.heap.size (by simp) ?_; intro g2 v2 w5 hrow hg2 hO5q; have hO5 : Only (· = g) w2 w5 := (by first | exact hO5q | exact ⟨hO5q.os, hO5q.tape, hO5q.output, hO5q.size, hO5q.block⟩); clear hO5q; have hx5 := HO.out.2.1.only hO5 (by omega); have f5 := hx5.fr 0; have c5 := hx5.c0; obtain ⟨p5, k5, rfl, -⟩ := Row.form hrow; have H5 := Lib.hid (And.intro hrow (And.intro hg2 (And.intro hO5 hx5))); clear hrow hg2 hO5 hx5))
    have hO6 : Own (w5.setCell ⟨w.heap.size + 1, 0, none⟩ (.slice p5 (n + 32) k5)) g2 (.slice p5 (n + 32) k5) ((wU x1 771 2).1 ++ rndS s) := by
      have h5 : Own w5 g2 (.slice p5 (n + 32) k5) ((wU x1 771 2).1 ++ rndS s) := by
        unfold Own
        rw [List.length_append, List.map_append, HO.out.2.2, hlr]
        exact H5.out.1
      exact h5.only ((Only.refl (fun k => k = w.heap.size + 1) w5).setCell _ _ (.inl rfl)) (by have := H5.out.2.1; omega)
    have hx6 := H5.out.2.2.2.set0 (.slice p5 (n + 32) k5)
    have hW6 : Wr (w5.setCell ⟨w.heap.size + 1, 0, none⟩ (.slice p5 (n + 32) k5)) (w.heap.size + 1) ((wU x1 771 2).1 ++ rndS s, (wU x1 771 2).2) :=
      ⟨g2, p5, n + 32, k5, hx6, by rw [List.length_append, HO.out.2.2, hlr], by have := H5.out.2.1; omega, hO6⟩
    have hO26 : Only (fun k => k = g ∨ k = w.heap.size + 1) w2 (w5.setCell ⟨w.heap.size + 1, 0, none⟩ (.slice p5 (n + 32) k5)) := (H5.out.2.2.1.mono (fun _ _ h => .inl h)).setCell _ _ (.inl (.inr rfl))
    have hB6 := H2.out.2.2.1.only hO26 (by omega)
    have hI6 := H2.out.2.2.2.only hO26 (by intro k hk e; omega)
    have hBel6 := below_only H2.out.2.1.2.1 H2.out.2.1.2.1.size hO26 (by intro k hk e; omega)
    have hx3l : ((wU x1 771 2).1 ++ rndS s).length ≤ 200 := by rw [List.length_append, HO.out.2.2, hlr]; omega
    have hput : putS s = wN (wU (wU (wV ((wU x1 771 2).1 ++ rndS s, (wU x1 771 2).2) s.ses 1 0 32) s.suite 2) 0 1) (wA ([], false) s) 2 := HPUT.out
    have h4l := wV_len ((wU x1 771 2).1 ++ rndS s, (wU x1 771 2).2) s.ses 1 0 32 (by decide)
    obtain ⟨x4, hx4⟩ : ∃ x4, x4 = wV ((wU x1 771 2).1 ++ rndS s, (wU x1 771 2).2) s.ses 1 0 32 := ⟨_, rfl⟩
    rw [← hx4] at hput h4l
    have h5l := wU_len x4 s.suite 2 (by decide)
    obtain ⟨x5, hx5⟩ : ∃ x5, x5 = wU x4 s.suite 2 := ⟨_, rfl⟩
    rw [← hx5] at hput h5l
    have h6l := wU_len x5 0 1 (by decide)
    obtain ⟨x6, hx6'⟩ : ∃ x6, x6 = wU x5 0 1 := ⟨_, rfl⟩
    rw [← hx6'] at hput h6l
    have HX := Lib.hid (And.intro hx4 (And.intro hx5 (And.intro hx6' hput)))
    have h4l' : x4.1.length ≤ 65737 := Nat.le_trans h4l (by show ((wU x1 771 2).1 ++ rndS s).length + 65537 ≤ _; omega)
    have H6 := Lib.hid (And.intro (show WB w (w5.setCell ⟨w.heap.size + 1, 0, none⟩ (.slice p5 (n + 32) k5)) (w.heap.size + 1) ((wU x1 771 2).1 ++ rndS s, (wU x1 771 2).2) from ⟨hW6, hBel6, by omega⟩) (And.intro hB6 hI6))
    have c32 := hB6.c32 h
    clear hx4 hx5 hx6' hput h4l hO6 hx6 hW6 hO26 hB6 hI6 hBel6 c0 f0 c5 f5 HN HM
    generalize w5.setCell ⟨w.heap.size + 1, 0, none⟩ (.slice p5 (n + 32) k5) = w6 at *
    go_wp2_with (first
      | (go_at_call 31; refine (wvec_c _ _ _ _ _ s.ses 1 0 32 _ H6.out.1.1 H6.out.2.2.s1.1 (H6.out.2.2.s1.2.1.mono (fun k _ hk => by omega)) H6.out.2.2.s1.2.2 (by decide) (by show ((wU x1 771 2).1 ++ rndS s).length ≤ _; omega)).mono ?_; rintro e w7 ⟨rfl, hX, ho⟩; rw [← HX.out.1] at hX; have H7 := Lib.hid (And.intro (H6.out.1.step hX ho) (And.intro (H6.out.2.1.only ho (by omega)) (H6.out.2.2.only ho (by intro k hk e; omega)))); have c33 := H7.out.2.1.c33 h; clear hX ho)
      | (go_at_call 30; have hq := H8; refine (wuint_c _ x5 0 1 _ H8.out.1.1 (by omega)).mono ?_; rintro e w9 ⟨rfl, hX, ho⟩; rw [← HX.out.2.2.1] at hX; have H9 := Lib.hid (And.intro (H8.out.1.step hX ho) (And.intro (H8.out.2.1.only ho (by omega)) (H8.out.2.2.only ho (by intro k hk e; omega)))); clear hX ho)
      | (go_at_call 30; refine (wuint_c _ x4 s.suite 2 _ H7.out.1.1 (by omega)).mono ?_; rintro e w8 ⟨rfl, hX, ho⟩; rw [← HX.out.2.1] at hX; have H8 := Lib.hid (And.intro (H7.out.1.step hX ho) (And.intro (H7.out.2.1.only ho (by omega)) (H7.out.2.2.only ho (by intro k hk e; omega)))); clear hX ho)
      | (go_at_call 32; refine (wnested_c _ x6 _ 2 _ _ _ H9.out.1.1 (by decide) (by omega) (p1_c s z M w.heap.size _ H9.out.2.2 (by have := H9.out.1.2.1.size; omega) H9.out.2.1)).mono ?_; rintro e w10 ⟨rfl, hX, ho⟩; rw [← HX.out.2.2.2] at hX; have H10 := Lib.hid (H9.out.1.step hX ho); clear hX ho)
      | (go_at_call 35; refine (wend_c _ _ _ H10.out.1).mono ?_; rintro e w11 ⟨rfl, hE⟩; rcases hE with ⟨he, rfl⟩ | ⟨he, g9, p9, n9, c9, rfl, hn9, hg9, hO9⟩))
    · go_ret2
      exact ⟨.inl ⟨he, rfl⟩, H10.out.2.1⟩
    · go_ret2
      exact ⟨.inr ⟨he, g9, p9, n9, c9, rfl, hn9, by omega, hO9⟩, H10.out.2.1⟩
end Go.Proofs.Ytegmimnhkohaoaa
/-
  What the document's PutServer puts, and when (plain). No condition.
-/
namespace Go.Proofs.Ytegmimnhkohaoaa
open Go.RowKit Go.Kx
set_option linter.unusedVariables false
set_option linter.unusedSimpArgs false

/-- May a Server be put? -/
def ok1B (s : Sv) : Bool := decide (s.ses.length ≤ 32) && (all16B [s.suite, s.ver, s.grp, max s.psk 0] 4 && (decide (-1 ≤ s.psk) && decide (s.cook.length ≤ 64)))
def ok2B (s : Sv) : Bool := if s.retry then (decide (s.key.length = 0) && decide (s.psk = -1)) && (decide (s.grp ≠ 0) || decide (0 < s.cook.length))
  else (decide (s.R ≠ retryL) && decide (s.cook.length = 0)) && (if s.grp = 0 then decide (s.key.length = 0) else shareB s.grp s.key.length)
def rokS (s : Sv) : Bool := ok1B s && ok2B s

def rextL (kind : Int) (l : List UInt8) : List UInt8 := u16L kind ++ (be l.length 2 ++ l)
def vecL (W : Nat) (l : List UInt8) : List UInt8 := be l.length W ++ l
theorem rextL_len (kind : Int) (l : List UInt8) : (rextL kind l).length = l.length + 4 := wext_len _ _ _
theorem vecL_len (W : Nat) (l : List UInt8) : (vecL W l).length = l.length + W := by unfold vecL; rw [List.length_append, be_length]; omega
theorem u16L_len (n : Int) : (u16L n).length = 2 := rfl
/-- The extensions, step by step. -/
def e1S (s : Sv) : List UInt8 := rextL 43 (u16L s.ver)
def vS (s : Sv) : List UInt8 := if s.retry then u16L s.grp else u16L s.grp ++ vecL 2 s.key
def e2S (s : Sv) : List UInt8 := if s.grp = 0 then e1S s else e1S s ++ rextL 51 (vS s)
def e3S (s : Sv) : List UInt8 := if s.cook.length = 0 then e2S s else e2S s ++ rextL 44 (vecL 2 s.cook)
def e4S (s : Sv) : List UInt8 := if 0 ≤ s.psk then e3S s ++ rextL 41 (u16L s.psk) else e3S s
def rputL (s : Sv) : List UInt8 := [3, 3] ++ rndS s ++ vecL 1 s.ses ++ u16L s.suite ++ [0] ++ vecL 2 (e4S s)
theorem rndS_len {s : Sv} (h : s.R.length = 32) : (rndS s).length = 32 := by unfold rndS; split; exact retryL_len; exact h
theorem e2S_le {s : Sv} (h : s.key.length ≤ 64) : (e2S s).length ≤ 100 := by
  unfold e2S e1S vS
  split
  · rw [rextL_len, u16L_len]; omega
  · rw [List.length_append, rextL_len, rextL_len, u16L_len]
    split
    · rw [u16L_len]; omega
    · rw [List.length_append, vecL_len, u16L_len]; omega
theorem e2S_pos (s : Sv) : 0 < (e2S s).length := by
  unfold e2S e1S
  split
  · rw [rextL_len]; omega
  · rw [List.length_append, rextL_len]; omega
theorem e3S_le {s : Sv} (h : s.key.length ≤ 64 ∧ s.cook.length ≤ 64) : (e3S s).length ≤ 200 := by
  have := e2S_le h.1
  unfold e3S
  split
  · omega
  · rw [List.length_append, rextL_len, vecL_len]; omega
theorem e3S_pos (s : Sv) : 0 < (e3S s).length := by
  have := e2S_pos s
  unfold e3S
  split
  · omega
  · rw [List.length_append]; omega
theorem e4S_le {s : Sv} (h : s.key.length ≤ 64 ∧ s.cook.length ≤ 64) : (e4S s).length ≤ 300 := by
  have := e3S_le h
  unfold e4S
  split
  · rw [List.length_append, rextL_len, u16L_len]; omega
  · omega
theorem rokS_le {s : Sv} (h : rokS s = true) : s.ses.length ≤ 32 ∧ s.key.length ≤ 64 ∧ s.cook.length ≤ 64 := by
  unfold rokS ok1B ok2B shareB at h
  simp only [Bool.and_eq_true, decide_eq_true_eq] at h
  obtain ⟨⟨h1, -, -, h2⟩, h3⟩ := h
  refine ⟨h1, ?_, h2⟩
  split at h3
  · simp only [Bool.and_eq_true, decide_eq_true_eq] at h3
    omega
  · simp only [Bool.and_eq_true, decide_eq_true_eq] at h3
    obtain ⟨-, h4⟩ := h3
    split at h4
    · simp only [decide_eq_true_eq] at h4; omega
    · simp only [Bool.and_eq_true, decide_eq_true_eq] at h4; omega

end Go.Proofs.Ytegmimnhkohaoaa
/-
  Rows of bytes of the call's own, nil or not, that grow by append; relayref08.list. No condition but those that each theorem states.
-/
namespace Go.Proofs.Ytegmimnhkohaoaa
open Go.RowKit Go.Kx
set_option linter.unusedVariables false
set_option linter.unusedSimpArgs false
set_option maxRecDepth 100000

abbrev owB (p : Option Addr) (n c : Nat) (k : Nat) : Prop := (Value.slice p n c).ownBlock = some k
/-- A row of bytes of the call's own. -/
structure OB (w : World) (p : Option Addr) (n c : Nat) (l : List UInt8) : Prop where
  own : w.ownsRow 0 5 1 (.slice p n c) n (l.map B8)
  len : l.length = n
theorem OB.nil (w : World) : OB w none 0 0 [] := ⟨World.ownsRow_nil w 0 5 1, rfl⟩
theorem OB.only {w w' : World} {r : Nat → Prop} {p : Option Addr} {n c : Nat} {l : List UInt8} (h : OB w p n c l) (ho : Only r w w') (hd : ∀ k, owB p n c k → ¬ r k) : OB w' p n c l := ⟨owns_only h.own ho hd, h.len⟩
theorem OB.below {w w' : World} {p : Option Addr} {n c : Nat} {l : List UInt8} (h : OB w p n c l) (hb : Below w.heap.size w w') : OB w' p n c l := h.only (Only.of_below (r := fun _ => False) hb) (fun _ _ h => h)
theorem OB.at {w : World} {p : Option Addr} {n c : Nat} {l : List UInt8} (h : OB w p n c l) (g0 : Nat) : ∃ g, Own w g (.slice p n c) l ∧ (∀ k, owB p n c k → k = g) ∧ (g = g0 ∨ owB p n c g) := by
  have hl := h.len
  cases hb : (Value.slice p n c).ownBlock with
  | none => exact ⟨g0, by unfold Own; rw [hl]; exact ⟨h.own, .inl hb⟩, fun k hk => (by unfold owB at hk; rw [hb] at hk; cases hk), .inl rfl⟩
  | some g => exact ⟨g, by unfold Own; rw [hl]; exact ⟨h.own, .inr hb⟩, fun k hk => (by unfold owB at hk; rw [hb] at hk; cases hk; rfl), .inr hb⟩
theorem OB.of_own {w : World} {g n c : Nat} {p : Option Addr} {l : List UInt8} (h : Own w g (.slice p n c) l) : OB w p n c l ∧ ∀ k, owB p n c k → k = g := by
  obtain ⟨p', c', he, _⟩ := h.form
  cases he
  refine ⟨⟨h.1, rfl⟩, fun k hk => ?_⟩
  rcases h.2 with h2 | h2
  · unfold owB at hk; rw [h2] at hk; cases hk
  · unfold owB at hk; rw [h2] at hk; cases hk; rfl
theorem OB.nilc {w : World} {p : Option Addr} {n c : Nat} {l : List UInt8} (h : OB w p n c l) : p = none → c = 0 := by
  obtain ⟨g, ho, _⟩ := h.at 0
  obtain ⟨p', c', he, _, _, _, hp, _⟩ := ho.form
  cases he
  exact hp
theorem OB.rd {w : World} {p : Option Addr} {n c : Nat} {l : List UInt8} (h : OB w p n c l) : Rd w (fun k => owB p n c k) p l := by
  obtain ⟨g, ho, h1, h2⟩ := h.at (w.heap.size)
  obtain ⟨p', c', he, _, _, hr, _, ha⟩ := ho.form
  cases he
  refine hr.mono fun k hk e => ?_
  subst e
  rcases h2 with h2 | h2
  · omega
  · exact h2
theorem OB.lt {w : World} {p : Option Addr} {n c : Nat} {l : List UInt8} (h : OB w p n c l) (k : Nat) (hk : owB p n c k) : k < w.heap.size := by
  obtain ⟨g, ho, h1, h2⟩ := h.at 0
  obtain ⟨p', c', he, _, _, _, _, ha⟩ := ho.form
  cases he
  have := h1 k hk
  subst this
  cases p with
  | none => cases hk
  | some a => exact (ha a rfl).2
theorem only_fresh {w w' : World} (h : Only (· = w.heap.size) w w') : Only (fun _ => False) w w' := ⟨h.os, h.tape, h.output, h.size, fun k hk _ => h.block k hk (by omega)⟩
/-- append of bytes onto it. -/
theorem OB.app {w : World} {p : Option Addr} {n c : Nat} {l : List UInt8} (h : OB w p n c l) (T : Nat → Prop) (q : Option Addr) (m k : Nat) (l2 : List UInt8) (hm : l2.length = m) (hR : Rd w T q l2) (hq : q = none → k = 0) (hb : l.length + l2.length ≤ 140737488355328) :
    ∃ p' n' c' w', (Builtin.append_ #[23, 23] 23 #[.slice p n c, .slice q m k]).run Try.prog w = .ok (.slice p' n' c') w' ∧ OB w' p' n' c' (l ++ l2) ∧ (∀ k, owB p' n' c' k → owB p n c k ∨ k = w.heap.size) ∧ Only (fun k => owB p n c k) w w' := by
  subst hm
  obtain ⟨g, ho, h1, h2⟩ := h.at w.heap.size
  obtain ⟨g3, v3, w3, hr3, o3, hg3, hO3⟩ : ∃ g3 v3 w3, (Builtin.append_ #[23, 23] 23 #[.slice p n c, .slice q l2.length k]).run Try.prog w = .ok v3 w3 ∧ Own w3 g3 v3 (l ++ l2) ∧ (g3 = g ∨ g3 = w.heap.size) ∧ Only (· = g) w w3 := by
    exact run_append_bytes (P := Try.prog) w 23 23 Try.underlying23 Try.info5 g _ l ho T q l2.length k l2 rfl hq hR hb
  obtain ⟨p', c', rfl, _⟩ := o3.form
  have hof := OB.of_own o3
  refine ⟨p', _, c', w3, hr3, hof.1, fun k hk => ?_, ?_⟩
  · have := hof.2 k hk
    subst this
    rcases hg3 with h3 | h3
    · rcases h2 with h2 | h2
      · right; omega
      · left; rw [h3]; exact h2
    · exact .inr h3
  · rcases h2 with h2 | h2
    · subst h2
      exact (only_fresh hO3).mono (fun _ _ h => h.elim)
    · exact hO3.mono (fun k _ e => by rw [e]; exact h2)
theorem wpList_app8 {w : World} {ops : Array Oper} {rest : List Oper} {o : Oper} {a : Act} {Q : Exit → Act → World → Prop} (hgd : o.guard = none) (s x : Operand)
    (ho : (o.op, o.type) = (.call { callee := .builtin .append, args := #[s, x], argTypes := #[23, 23] }, 23)) {p : Option Addr} {n c : Nat} {l : List UInt8} (h : OB w p n c l) (hs : a.eval s = .slice p n c)
    (T : Nat → Prop) (q : Option Addr) (m k : Nat) (l2 : List UInt8) (hx : a.eval x = .slice q m k) (hm : l2.length = m) (hR : Rd w T q l2) (hq : q = none → k = 0) (hb : l.length + l2.length ≤ 140737488355328)
    (hK : ∀ p' n' c' w', OB w' p' n' c' (l ++ l2) → (∀ k, owB p' n' c' k → owB p n c k ∨ k = w.heap.size) → Only (fun k => owB p n c k) w w' → wpList Try.prog ops Q rest (a.put o.dst (.slice p' n' c')) w') : wpList Try.prog ops Q (o :: rest) a w := by
  obtain ⟨p', n', c', w', hr, h1, h2, h3⟩ := h.app T q m k l2 hm hR hq hb
  injection ho with e1 e2
  exact wpList_plain hgd fun K hK' => wp_append_run w s x 23 e1 _ _ hs hx (by rw [e2]; exact hr) (hK' _ _ (hK p' n' c' w' h1 h2 h3))
theorem step_app8 {w : World} {ops : Array Oper} {o : Oper} {a : Act} {K : Act → World → Prop} {Q : Exit → Act → World → Prop} {E : Prop} (hgd : o.guard = none) (s x : Operand)
    (ho : (o.op, o.type) = (.call { callee := .builtin .append, args := #[s, x], argTypes := #[23, 23] }, 23)) {p : Option Addr} {n c : Nat} {l : List UInt8} (h : OB w p n c l) (hs : a.eval s = .slice p n c)
    (T : Nat → Prop) (q : Option Addr) (m k : Nat) (l2 : List UInt8) (hx : a.eval x = .slice q m k) (hm : l2.length = m) (hR : Rd w T q l2) (hq : q = none → k = 0) (hb : l.length + l2.length ≤ 140737488355328)
    (hK : ∀ p' n' c' w', OB w' p' n' c' (l ++ l2) → (∀ k, owB p' n' c' k → owB p n c k ∨ k = w.heap.size) → Only (fun k => owB p n c k) w w' → K (a.put o.dst (.slice p' n' c')) w') :
    if Region.wanted o (yielded ops a.tmps) = true then Oper.wp Try.prog o a w K Q else E := by
  obtain ⟨p', n', c', w', hr, h1, h2, h3⟩ := h.app T q m k l2 hm hR hq hb
  injection ho with e1 e2
  exact step_builtin hgd s x _ _ e1 _ _ hs hx (by rw [e2]; exact hr) (hK p' n' c' w' h1 h2 h3)
/-- A call that tells a new row. -/
theorem PutYes.ob {w w' : World} {l : List UInt8} {e : Ending} (h : PutYes w l e w') : ∃ p n c, e = .returned (.slice p n c) ∧ OB w' p n c l ∧ (∀ k, owB p n c k → w.heap.size ≤ k) ∧ Below w.heap.size w w' := by
  obtain ⟨g, n, c, rfl, h1, h2, h3, h4, h5, h6, h7⟩ := h
  obtain ⟨h8, h9⟩ := OB.of_own h6
  exact ⟨_, n, c, rfl, h8, fun k hk => by have := h9 k hk; omega, h7⟩
def NewOB (w : World) (l : List UInt8) (e : Ending) (w' : World) : Prop := ∃ p n c, e = .returned (.slice p n c) ∧ OB w' p n c l ∧ (∀ k, owB p n c k → w.heap.size ≤ k) ∧ Below w.heap.size w w'
theorem PutYes.new {w w' : World} {l : List UInt8} {e : Ending} (h : PutYes w l e w') : NewOB w l e w' := h.ob
/-- Numbers as bytes. -/
def lstL (l : List Int) : List UInt8 := l.flatMap u16L
theorem lstL_len (l : List Int) : (lstL l).length = 2 * l.length := by
  unfold lstL
  induction l with
  | nil => rfl
  | cons a r ih => rw [List.flatMap_cons, List.length_append, ih, u16L_len, List.length_cons]; omega
theorem lstL_snoc (l : List Int) (a : Int) : lstL (l ++ [a]) = lstL l ++ u16L a := by unfold lstL; simp
set_option maxHeartbeats 4000000 in
theorem list_c (S : Nat → Prop) (p : Option Addr) (n c : Nat) (l : List Int) (w : World) (hR : RdI w S p l) (hm : l.length = n) (hn : n ≤ 70368744177664) : Calls Try.prog 65 #[.slice p n c] w (NewOB w (lstL l)) := by
  have HR := Lib.hid (And.intro hR hm)
  clear hR hm
  go_enter Try.func65, Try.ntmps65
  go_wp2_with fail
  go_loopw [3, 4] (fun v3 v4 wr => ∃ (i : Nat) (q : Option Addr) (m k : Nat), v4 = .int .i64 (i : Int) ∧ v3 = .slice q m k ∧ i ≤ n ∧ OB wr q m k (lstL (l.take i)) ∧ (∀ k', owB q m k k' → w.heap.size ≤ k') ∧ Below w.heap.size w wr) (fun _ v4 _ => n - (intOf v4).toNat)
  case atStart => exact ⟨0, none, 0, 0, rfl, rfl, Nat.zero_le _, OB.nil _, (fun k h => by cases h), Below.refl _ _⟩
  case round =>
    obtain ⟨i, q, m, k, rfl, rfl, hi, hO, hx, hB⟩ := hrel
    have I := Lib.hid (And.intro hO (And.intro hx hB))
    have hln := hO.len
    rw [lstL_len] at hln
    have htl : (l.take i).length = i := by rw [List.length_take]; have := HR.out.2; omega
    rw [htl] at hln
    have HLN := Lib.hid hln
    clear hO hx hB htl hln
    by_cases hlt : i < n
    · have HLT := Lib.hid hlt
      have hld : (i : Int) < (n : Int) := by omega
      have hi0 : (0 : Int) ≤ (i : Int) := by omega
      have w2 : IntKind.i64.wrap ((i : Int) + 1) = ((i + 1 : Nat) : Int) := IntWalk.i64_in _ (by omega)
      have hil : i < l.length := by have := HR.out.2; omega
      obtain ⟨g, o, rfl, -, hg, hc⟩ := RdI.at (show RdI wr S p l from RdV.below HR.out.1 I.out.2.2) (by omega)
      have hci := hc i hil
      have hts : lstL (l.take (i + 1)) = lstL (l.take i) ++ u16L (l[i]'hil) := by
        rw [List.take_succ_eq_append_getElem hil, lstL_snoc]
      obtain ⟨x, hx⟩ : ∃ x, x = l[i]'hil := ⟨_, rfl⟩
      rw [← hx] at hci hts
      have HT := Lib.hid hts
      clear hx hc hts hlt hil
      go_wp2_with (first
        | (go_at_call 40; refine (u16_c x _).mono ?_; intro e w3 hp; obtain ⟨q3, m3, k3, rfl, h1, h2, h3⟩ := hp.new; have H3 := Lib.hid (And.intro h1 (And.intro h2 h3)); clear h1 h2 h3)
        | (at_builtin; refine wpList_app8 rfl _ _ rfl (I.out.1.below H3.out.2.2) rfl _ q3 m3 k3 (u16L x) rfl H3.out.1.len H3.out.1.rd H3.out.1.nilc (by rw [lstL_len, u16L_len, List.length_take]; omega) ?_; intro p4 n4 c4 w4 h1 h2 h3; have H4 := Lib.hid (And.intro h1 (And.intro h2 h3)); clear h1 h2 h3))
      go_roundw
      case rel =>
        refine ⟨i + 1, p4, n4, c4, by go_num, rfl, by have := HLT.out; omega, by rw [HT.out]; exact H4.out.1, fun k' hk' => ?_, below_only (I.out.2.2.trans (H3.out.2.2.mono I.out.2.2.size)) (Nat.le_trans I.out.2.2.size H3.out.2.2.size) H4.out.2.2 (fun k' hk' e => by have := I.out.2.1 k' e; omega)⟩
        rcases H4.out.2.1 k' hk' with h | h
        · exact I.out.2.1 k' h
        · have := I.out.2.2.size; have := H3.out.2.2.size; omega
      case measure => have := HLT.out; simp [intOf]; omega
    · obtain rfl : i = n := by omega
      go_wp2
      go_ret
      have hl : l.take i = l := by rw [← HR.out.2]; exact List.take_length
      exact ⟨q, m, k, rfl, by rw [← hl]; exact I.out.1, I.out.2.1, I.out.2.2⟩
end Go.Proofs.Ytegmimnhkohaoaa
/-
  The contract of package hello's writer's list. Conditions: at most 2 to the 46th bytes stand in it; at most 2 to the 44th numbers.
-/
namespace Go.Proofs.Ytegmimnhkohaoaa
open Go.RowKit Go.Kx
set_option linter.unusedVariables false
set_option linter.unusedSimpArgs false

/-- Numbers side by side. -/
def wI (l : List Int) : WS := l.foldl (fun y n => wU y n 2) ([], false)
theorem wI_snoc (l : List Int) (n : Int) : wI (l ++ [n]) = wU (wI l) n 2 := by unfold wI; rw [List.foldl_append]; rfl
theorem wI_len (l : List Int) : (wI l).1.length ≤ 4 * l.length := by
  have key : ∀ (l : List Int) (y : WS), (l.foldl (fun y n => wU y n 2) y).1.length ≤ y.1.length + 4 * l.length := by
    intro l
    induction l with
    | nil => intro y; simp
    | cons n t ih =>
      intro y
      have h1 := ih (wU y n 2)
      have h2 := wU_len y n 2 (by decide)
      simp only [List.foldl_cons, List.length_cons]
      omega
  have := key l ([], false)
  unfold wI
  simpa using this
def wL (x : WS) (l : List Int) (W most : Int) : WS := wV (wM (wM x (decide (1 ≤ l.length) && decide ((l.length : Int) ≤ most))) (!(wI l).2)) (wI l).1 W 0 65535
theorem RdI.only {w w' : World} {S q : Nat → Prop} {p : Option Addr} {l : List Int} (h : RdI w S p l) (ho : Only q w w') (hd : ∀ k, S k → ¬ q k) : RdI w' S p l := RdV.only h ho hd
theorem RdI.below {w w' : World} {S : Nat → Prop} {p : Option Addr} {l : List Int} (h : RdI w S p l) (ho : Below w.heap.size w w') : RdI w' S p l := RdV.below h ho
theorem RdI.mono {w : World} {S T : Nat → Prop} {p : Option Addr} {l : List Int} (h : RdI w S p l) (hd : ∀ k, k < w.heap.size → S k → T k) : RdI w T p l := RdV.mono h hd

set_option maxHeartbeats 8000000 in
set_option maxRecDepth 100000 in
theorem wlist_c (r : Nat) (x : WS) (p : Option Addr) (n c : Nat) (l : List Int) (W most : Int) (w : World) (hr : Wr w r x) (hR : RdI w (· ≠ r) p l) (hn : l.length = n) (hl : n ≤ 8796093022208) (hx : x.1.length ≤ 70368744177664) (hW : W ≤ 2) :
    Calls Try.prog 51 #[rp r, .slice p n c, .int .i64 W, .int .i64 most] w (WrR w r (wL x l W most)) := by
  have hlt := hr.lt
  obtain ⟨b1, hb1⟩ : ∃ b, b = decide (1 ≤ l.length) := ⟨_, rfl⟩
  obtain ⟨b2, hb2⟩ : ∃ b, b = decide ((l.length : Int) ≤ most) := ⟨_, rfl⟩
  have hw : wL x l W most = wV (wM (wM x (b1 && b2)) (!(wI l).2)) (wI l).1 W 0 65535 := by unfold wL; rw [hb1, hb2]
  rw [hn] at hb1 hb2
  have H0 := Lib.hid (And.intro hr (And.intro hR (And.intro hn hw)))
  have hwl := wI_len l
  rw [hn] at hwl
  clear hr hR hn hw
  cases b1 <;> cases b2 <;> (
    have hc1 : decide (1 ≤ (n : Int)) = _ := (show decide (1 ≤ (n : Int)) = decide (1 ≤ n) by rw [Bool.eq_iff_iff]; simp; omega).trans hb1.symm
    have hc2 := hb2.symm
    have hc3 := hb1.symm
    clear hb1 hb2
    go_enter Try.func51, Try.ntmps51
    go_upto_region 3 with (go_at_call 27; refine (wr_must r _ x _ H0.out.1).mono ?_; rintro e w1 ⟨rfl, hX, ho⟩; have H1 := Lib.hid (And.intro hX (And.intro ho (Wr.new w1))); have hz1 := ho.size; clear hX ho)
    clear hc1 hc2 hc3
    have hz2 := World.size_alloc w1 (.cells #[.slice none 0 0, .bool false] 80)
    have hB2 : Below w1.heap.size w1 (w1.alloc (.cells #[.slice none 0 0, .bool false] 80)) := (Below.refl _ _).alloc (Nat.le_refl _) _
    have hI2 : Wr (w1.alloc (.cells #[.slice none 0 0, .bool false] 80)) w1.heap.size ([], false) ∧ RdI (w1.alloc (.cells #[.slice none 0 0, .bool false] 80)) (fun k => k ≠ r ∧ k < w.heap.size) p l ∧ Only (· = r) w (w1.alloc (.cells #[.slice none 0 0, .bool false] 80)) :=
      ⟨H1.out.2.2, ((H0.out.2.1.mono (T := fun k => k ≠ r ∧ k < w.heap.size) (fun k hk h => ⟨h, hk⟩)).only H1.out.2.1 (fun k hk e => hk.1 e)).below hB2, H1.out.2.1.then (Only.of_below hB2)⟩
    have hkey := fun wz (ho : Only (· = w1.heap.size) (w1.alloc (.cells #[.slice none 0 0, .bool false] 80)) wz) => H1.out.1.below (below_only hB2 (by rw [hz2]; omega) ho (by intro k hk e; omega))
    have HKEY := Lib.hid hkey
    clear hkey
    generalize w1.alloc (.cells #[.slice none 0 0, .bool false] 80) = w2 at *
    generalize w1.heap.size = wi at *
    have I2 := Lib.hid hI2
    clear hI2 hB2 H1
    go_loopw [26] (fun v26 wr => ∃ i : Nat, i ≤ n ∧ v26 = .int .i64 (i : Int) ∧ Wr wr wi (wI (l.take i)) ∧ Only (· = wi) w2 wr) (fun v26 _ => n - (intOf v26).toNat)
    case atStart => exact ⟨0, Nat.zero_le _, rfl, I2.out.1, Only.refl _ _⟩
    case round =>
      obtain ⟨i, hi, rfl, hW', hO'⟩ := hrel
      have HW := Lib.hid (And.intro hW' hO')
      have hzr := hO'.size
      clear hW' hO'
      by_cases hlt : i < n
      · have hil : i < l.length := by rw [H0.out.2.2.1]; exact hlt
        have hRr := I2.out.2.1.only HW.out.2 (by intro k hk e; omega)
        obtain ⟨g, o, rfl, -, hg, hc⟩ := hRr.at (by omega)
        have hci := hc i hil
        have hts : l.take (i + 1) = l.take i ++ [l[i]] := List.take_succ_eq_append_getElem hil
        have hln := wI_len (l.take i)
        have hlt2 : (l.take i).length ≤ n := by rw [List.length_take]; omega
        obtain ⟨v, hv⟩ : ∃ v, v = l[i] := ⟨_, rfl⟩
        rw [← hv] at hci hts
        have HT := Lib.hid hts
        clear hts hv hc hRr hil
        have HLT := Lib.hid hlt
        go_wp2_with (go_at_call 30; refine (wuint_c wi (wI (l.take i)) v 2 _ HW.out.1 (by omega)).mono ?_; rintro e w4 ⟨rfl, hX, ho⟩; have H4 := Lib.hid (And.intro hX ho); clear hX ho)
        refine ⟨⟨i + 1, by have := HLT.out; omega, by go_num, by rw [HT.out, wI_snoc]; exact H4.out.1, HW.out.2.then H4.out.2⟩, by have := HLT.out; simp [intOf]; omega⟩
      · obtain rfl : i = n := by omega
        have htl : l.take i = l := by rw [← H0.out.2.2.1]; exact List.take_length
        have hY := HW.out.1
        rw [htl] at hY
        obtain ⟨gy, py, ny, cy, hbx, hny, hgy, hOy⟩ := hY.ex
        have d1 := hbx.c1
        have hpy : py = none → cy = 0 := by obtain ⟨p', c', he, _, _, _, hp, _⟩ := hOy.form; cases he; exact hp
        have hXr := HKEY.out wr HW.out.2
        have HO := Lib.hid (And.intro hOy (And.intro hny (And.intro hpy (And.intro hbx hXr))))
        clear htl hY hbx hny hOy hpy hXr
        go_wp2_with (first
          | (go_at_call 27; refine (wr_must r (!(wI l).2) _ _ HO.out.2.2.2.2).mono ?_; rintro e w5 ⟨rfl, hX, ho⟩; have d0 := (HO.out.2.2.2.1.only ho (by omega)).c0; have HX := Lib.hid (And.intro hX (And.intro ho (HO.out.1.only ho (by omega)))); clear hX ho)
          | (go_at_call 31; refine (wvec_c r _ _ _ _ (wI l).1 W 0 65535 _ HX.out.1 HO.out.2.1 (HX.out.2.2.rd.mono (T := (· ≠ r)) (fun q _ hq => by omega)) HO.out.2.2.1 hW hx).mono ?_; rintro e w6 ⟨rfl, hX, ho⟩; have HZ := Lib.hid (And.intro hX ho); clear hX ho))
        go_end0
        rw [H0.out.2.2.2]
        refine ⟨rfl, HZ.out.1, ?_⟩
        have ha : Only (fun k => k = r ∨ k = wi) w wr := (I2.out.2.2.mono (fun _ _ h => .inl h)).then (HW.out.2.mono (fun _ _ h => .inr h))
        have hb := (ha.then (HX.out.2.1.mono (fun _ _ h => .inl h))).then (HZ.out.2.mono (fun _ _ h => .inl h))
        exact hb.mono (fun k hk h => by rcases h with h | h; exact h; omega))
end Go.Proofs.Ytegmimnhkohaoaa
/-
  The contracts of package hello's writer's binders and ids. Conditions: at most 2 to the 46th bytes in all.
-/
namespace Go.Proofs.Ytegmimnhkohaoaa
open Go.RowKit Go.Kx
set_option linter.unusedVariables false
set_option linter.unusedSimpArgs false
set_option maxRecDepth 100000

/-- Slices of bytes side by side, from p on, in blocks of S; their bytes in blocks of S, too. -/
def BdAt (w : World) (S : Nat → Prop) (p : Option Addr) (l : List (List UInt8)) : Prop := ∀ i (h : i < l.length), ∃ g o q m c, p = some ⟨g, o, none⟩ ∧ S g ∧ w.cell? ⟨g, o + i, none⟩ = some (.slice q m c) ∧ l[i].length = m ∧ Rd w S q l[i] ∧ (q = none → c = 0)
theorem cell_kept {w w' : World} {q : Nat → Prop} {g o : Nat} {v : Value} (ho : Only q w w') (hg : ¬ q g) (hc : w.cell? ⟨g, o, none⟩ = some v) : w'.cell? ⟨g, o, none⟩ = some v := by
  have hlt : g < w.heap.size := World.block_lt_of_cell? w _ hc
  exact (World.cell?_of_block (w := w) (w' := w') (a := ⟨g, o, none⟩) (ho.block g hlt hg)).trans hc
theorem BdAt.only {w w' : World} {S q : Nat → Prop} {p : Option Addr} {l : List (List UInt8)} (h : BdAt w S p l) (ho : Only q w w') (hq : ∀ k, S k → ¬ q k) : BdAt w' S p l := by
  intro i hi
  obtain ⟨g, o, a, m, c, rfl, hS, hc, hl, hr, hn⟩ := h i hi
  exact ⟨g, o, a, m, c, rfl, hS, cell_kept ho (hq _ hS) hc, hl, hr.only ho hq, hn⟩
theorem BdAt.mono {w : World} {S T : Nat → Prop} {p : Option Addr} {l : List (List UInt8)} (h : BdAt w S p l) (hT : ∀ k, k < w.heap.size → S k → T k) : BdAt w T p l := by
  intro i hi
  obtain ⟨g, o, a, m, c, rfl, hS, hc, hl, hr, hn⟩ := h i hi
  exact ⟨g, o, a, m, c, rfl, hT _ (World.block_lt_of_cell? w _ hc) hS, hc, hl, hr.mono hT, hn⟩
def wB (x : WS) (l : List (List UInt8)) : WS := l.foldl (fun y b => wV y b 1 32 32) x
theorem wB_snoc (x : WS) (l : List (List UInt8)) (b : List UInt8) : wB x (l ++ [b]) = wV (wB x l) b 1 32 32 := by unfold wB; rw [List.foldl_append]; rfl
theorem wV1_len (x : WS) (v : List UInt8) (l m : Int) : (wV x v 1 l m).1.length ≤ x.1.length + 256 := by
  unfold wV
  split
  · rename_i hk
    have h2 := (putOk_cast (N := v.length) (V := 1) hk).2
    simp [be_length]; omega
  · simp
theorem wB_len (l : List (List UInt8)) : ∀ x : WS, (wB x l).1.length ≤ x.1.length + 256 * l.length := by
  induction l with
  | nil => intro x; simp [wB]
  | cons b t ih =>
    intro x
    have h1 := ih (wV x b 1 32 32)
    have h2 := wV1_len x b 32 32
    show (wB (wV x b 1 32 32) t).1.length ≤ _
    rw [List.length_cons]
    omega

set_option maxHeartbeats 8000000 in
set_option maxRecDepth 100000 in
theorem wbinders_c (r : Nat) (x : WS) (p : Option Addr) (n c : Nat) (l : List (List UInt8)) (w : World) (hr : Wr w r x) (hR : BdAt w (· ≠ r) p l) (hn : l.length = n) (hnc : n ≤ 9223372036854775807) (hx : x.1.length + 256 * n ≤ 70368744177664) :
    Calls Try.prog 98 #[rp r, .slice p n c] w (WrR w r (wB x l)) := by
  subst hn
  have hlt := hr.lt
  have H0 := Lib.hid (And.intro hr (hR.mono (T := fun k => k ≠ r ∧ k < w.heap.size) (fun k hk h => ⟨h, hk⟩)))
  clear hr hR
  go_enter Try.func98, Try.ntmps98
  go_upto_region 1 with (fail)
  go_loopw [8] (fun v8 wr => ∃ i : Nat, i ≤ l.length ∧ v8 = .int .i64 (i : Int) ∧ Wr wr r (wB x (l.take i)) ∧ Only (· = r) w wr) (fun v8 _ => l.length - (intOf v8).toNat)
  case atStart => exact ⟨0, Nat.zero_le _, rfl, H0.out.1, Only.refl _ _⟩
  case round =>
    obtain ⟨i, hi, rfl, hW', hO'⟩ := hrel
    have HW := Lib.hid (And.intro hW' hO')
    have hzr := hO'.size
    clear hW' hO'
    by_cases hlt : i < l.length
    · obtain ⟨g, o, a, m, k, rfl, hS, hc, hl, hrd, hnl⟩ := (H0.out.2.only HW.out.2 (by intro k hk e; exact hk.1 e)) i hlt
      have hts : l.take (i + 1) = l.take i ++ [l[i]] := List.take_succ_eq_append_getElem hlt
      have hln := wB_len (l.take i) x
      have hlt2 : (l.take i).length ≤ l.length := by rw [List.length_take]; omega
      obtain ⟨v, hv⟩ : ∃ v, v = l[i] := ⟨_, rfl⟩
      rw [← hv] at hts hl hrd
      have HT := Lib.hid (And.intro hts (And.intro hl (And.intro (hrd.mono (T := (· ≠ r)) (fun k _ h => h.1)) hnl)))
      clear hts hv hl hrd hnl
      have HLT := Lib.hid hlt
      go_wp2_with (go_at_call 31; refine (wvec_c r _ _ _ _ v 1 32 32 _ HW.out.1 HT.out.2.1 HT.out.2.2.1 HT.out.2.2.2 (by decide) (by omega)).mono ?_; rintro e w4 ⟨rfl, hX, ho⟩; have H4 := Lib.hid (And.intro hX ho); clear hX ho)
      refine ⟨⟨i + 1, by have := HLT.out; omega, by go_num, by rw [HT.out.1, wB_snoc]; exact H4.out.1, HW.out.2.then H4.out.2⟩, by have := HLT.out; simp [intOf]; omega⟩
    · obtain rfl : i = l.length := by omega
      have htl : l.take l.length = l := List.take_length
      have HTL := Lib.hid htl
      clear htl
      go_wp2
      go_end0
      have h := HW.out.1
      rw [HTL.out] at h
      exact ⟨rfl, h, HW.out.2⟩
end Go.Proofs.Ytegmimnhkohaoaa
/-
  The contracts of package hello's writer's ids, and of the closure that puts shares. Conditions: at most 2 to the 46th bytes in all.
-/
namespace Go.Proofs.Ytegmimnhkohaoaa
open Go.RowKit Go.Kx
set_option linter.unusedVariables false
set_option linter.unusedSimpArgs false
set_option maxRecDepth 100000

/-- Tickets and ages, side by side, from p on. -/
def IdAt (w : World) (S : Nat → Prop) (p : Option Addr) (l : List (List UInt8 × Int)) : Prop := ∀ i (h : i < l.length), ∃ g o q m c, p = some ⟨g, o, none⟩ ∧ S g ∧ w.cell? ⟨g, o + i * 2, none⟩ = some (.slice q m c) ∧ w.cell? ⟨g, o + i * 2 + 1, none⟩ = some (.int .i64 l[i].2) ∧ l[i].1.length = m ∧ Rd w S q l[i].1 ∧ (q = none → c = 0)
theorem IdAt.only {w w' : World} {S q : Nat → Prop} {p : Option Addr} {l : List (List UInt8 × Int)} (h : IdAt w S p l) (ho : Only q w w') (hq : ∀ k, S k → ¬ q k) : IdAt w' S p l := by
  intro i hi
  obtain ⟨g, o, a, m, c, rfl, hS, hc, hd, hl, hr, hn⟩ := h i hi
  exact ⟨g, o, a, m, c, rfl, hS, cell_kept ho (hq _ hS) hc, cell_kept ho (hq _ hS) hd, hl, hr.only ho hq, hn⟩
theorem IdAt.mono {w : World} {S T : Nat → Prop} {p : Option Addr} {l : List (List UInt8 × Int)} (h : IdAt w S p l) (hT : ∀ k, k < w.heap.size → S k → T k) : IdAt w T p l := by
  intro i hi
  obtain ⟨g, o, a, m, c, rfl, hS, hc, hd, hl, hr, hn⟩ := h i hi
  exact ⟨g, o, a, m, c, rfl, hT _ (World.block_lt_of_cell? w _ hc) hS, hc, hd, hl, hr.mono hT, hn⟩
def wId (x : WS) (l : List (List UInt8 × Int)) : WS := l.foldl (fun y t => wU (wV y t.1 2 1 255) t.2 4) x
theorem wId_snoc (x : WS) (l : List (List UInt8 × Int)) (t : List UInt8 × Int) : wId x (l ++ [t]) = wU (wV (wId x l) t.1 2 1 255) t.2 4 := by unfold wId; rw [List.foldl_append]; rfl
theorem wId_len (l : List (List UInt8 × Int)) : ∀ x : WS, (wId x l).1.length ≤ x.1.length + 65541 * l.length := by
  induction l with
  | nil => intro x; simp [wId]
  | cons b t ih =>
    intro x
    have h1 := ih (wU (wV x b.1 2 1 255) b.2 4)
    have h2 := wV_len x b.1 2 1 255 (by decide)
    have h3 := wU_len (wV x b.1 2 1 255) b.2 4 (by decide)
    show (wId (wU (wV x b.1 2 1 255) b.2 4) t).1.length ≤ _
    rw [List.length_cons]
    omega

set_option maxHeartbeats 8000000 in
theorem wids_c (r : Nat) (x : WS) (p : Option Addr) (n c : Nat) (l : List (List UInt8 × Int)) (w : World) (hr : Wr w r x) (hR : IdAt w (· ≠ r) p l) (hn : l.length = n) (hx : x.1.length + 65541 * n ≤ 70368744177664) :
    Calls Try.prog 96 #[rp r, .slice p n c] w (WrR w r (wId (wM x (decide (n ≤ 4))) l)) := by
  subst hn
  have hnc : l.length ≤ 1099511627776 := by omega
  have hlt := hr.lt
  have H0 := Lib.hid (And.intro hr (hR.mono (T := fun k => k ≠ r ∧ k < w.heap.size) (fun k hk h => ⟨h, hk⟩)))
  have hbb : decide ((l.length : Int) ≤ 4) = decide (l.length ≤ 4) := by rw [Bool.eq_iff_iff]; simp; omega
  obtain ⟨b, hb⟩ : ∃ b, b = decide (l.length ≤ 4) := ⟨_, rfl⟩
  rw [← hb] at hbb ⊢
  have HB := Lib.hid hb
  have hb' := hb.symm
  clear hr hR hb
  go_enter Try.func96, Try.ntmps96
  go_upto_region 2 with (go_at_call 27; refine (wr_must r b x _ H0.out.1).mono ?_; rintro e w1 ⟨rfl, hX, ho⟩; have H1 := Lib.hid (And.intro hX ho); have hz1 := ho.size; clear hX ho)
  clear hbb hb'
  go_loopw [13] (fun v13 wr => ∃ i : Nat, i ≤ l.length ∧ v13 = .int .i64 (i : Int) ∧ Wr wr r (wId (wM x b) (l.take i)) ∧ Only (· = r) w wr) (fun v13 _ => l.length - (intOf v13).toNat)
  case atStart => exact ⟨0, Nat.zero_le _, rfl, H1.out.1, H1.out.2⟩
  case round =>
    obtain ⟨i, hi, rfl, hW', hO'⟩ := hrel
    have HW := Lib.hid (And.intro hW' hO')
    have hzr := hO'.size
    clear hW' hO'
    by_cases hlt : i < l.length
    · obtain ⟨g, o, a, m, k, rfl, hS, hc, hd, hl, hrd, hnl⟩ := (H0.out.2.only HW.out.2 (by intro k hk e; exact hk.1 e)) i hlt
      have hts : l.take (i + 1) = l.take i ++ [l[i]] := List.take_succ_eq_append_getElem hlt
      have hln := wId_len (l.take i) (wM x b)
      have hlt2 : (l.take i).length + 1 ≤ l.length := by rw [List.length_take]; omega
      have hwm : (wM x b).1.length ≤ x.1.length := Nat.le_refl _
      obtain ⟨v, hv⟩ : ∃ v, v = l[i] := ⟨_, rfl⟩
      rw [← hv] at hts hl hrd hd
      obtain ⟨tk, age⟩ := v
      simp only at hl hrd hd
      have hvl := wV_len (wId (wM x b) (l.take i)) tk 2 1 255 (by decide)
      have HT := Lib.hid (And.intro hts (And.intro hl (And.intro (hrd.mono (T := fun k => k ≠ r ∧ k < wr.heap.size) (fun k hk h => ⟨h.1, hk⟩)) hnl)))
      have hbx := Box2.new wr 104 (.slice a m k) (.int .i64 age)
      have hBz : Below wr.heap.size wr (wr.alloc (.cells #[.slice a m k, .int .i64 age] 104)) := (Below.refl _ _).alloc (Nat.le_refl _) _
      have HX := Lib.hid (And.intro hbx hBz)
      have hgr := World.block_lt_of_cell? wr _ hc
      have hrl := HW.out.1.lt
      clear hts hv hl hrd hnl hbx hBz
      have HLT := Lib.hid hlt
      go_wp2_with (first
        | (go_at_call 30; refine (wuint_c r _ age 4 _ H4.out.1 (by omega)).mono ?_; rintro e w5 ⟨rfl, hX, ho⟩; have H5 := Lib.hid (And.intro hX (H4.out.2.then ho)); clear hX ho)
        | (go_at_call 31; refine (wvec_c r _ _ _ _ tk 2 1 255 _ (HW.out.1.below HX.out.2) HT.out.2.1 ((HT.out.2.2.1.below HX.out.2).mono (T := (· ≠ r)) (fun k _ h => h.1)) HT.out.2.2.2 (by decide) (by omega)).mono ?_; rintro e w4 ⟨rfl, hX, ho⟩; have d1 := (HX.out.1.only ho (by omega)).c1; have H4 := Lib.hid (And.intro hX ho); clear hX ho))
      refine ⟨⟨i + 1, by have := HLT.out; omega, by go_num, by rw [HT.out.1, wId_snoc]; exact H5.out.1, HW.out.2.then ((Only.of_below HX.out.2).then H5.out.2)⟩, by have := HLT.out; simp [intOf]; omega⟩
    · obtain rfl : i = l.length := by omega
      have htl : l.take l.length = l := List.take_length
      have HTL := Lib.hid htl
      clear htl
      go_wp2
      go_end0
      have h := HW.out.1
      rw [HTL.out] at h
      exact ⟨rfl, h, HW.out.2⟩
end Go.Proofs.Ytegmimnhkohaoaa
/-
  A Client (of hello or of the document) by value and in a block. No condition but those that each theorem states.
-/
namespace Go.Proofs.Ytegmimnhkohaoaa
open Go.RowKit Go.Kx
set_option linter.unusedVariables false
set_option linter.unusedSimpArgs false

/-- Groups and keys, side by side, from p on. -/
def ShAt (w : World) (S : Nat → Prop) (p : Option Addr) (l : List (Int × List UInt8)) : Prop := ∀ i (h : i < l.length), ∃ g o q m c, p = some ⟨g, o, none⟩ ∧ S g ∧ w.cell? ⟨g, o + i * 2, none⟩ = some (.int .i64 l[i].1) ∧ w.cell? ⟨g, o + i * 2 + 1, none⟩ = some (.slice q m c) ∧ l[i].2.length = m ∧ Rd w S q l[i].2 ∧ (q = none → c = 0)
theorem ShAt.only {w w' : World} {S q : Nat → Prop} {p : Option Addr} {l : List (Int × List UInt8)} (h : ShAt w S p l) (ho : Only q w w') (hq : ∀ k, S k → ¬ q k) : ShAt w' S p l := by
  intro i hi
  obtain ⟨g, o, a, m, c, rfl, hS, hc, hd, hl, hr, hn⟩ := h i hi
  exact ⟨g, o, a, m, c, rfl, hS, cell_kept ho (hq _ hS) hc, cell_kept ho (hq _ hS) hd, hl, hr.only ho hq, hn⟩
theorem ShAt.mono {w : World} {S T : Nat → Prop} {p : Option Addr} {l : List (Int × List UInt8)} (h : ShAt w S p l) (hT : ∀ k, k < w.heap.size → S k → T k) : ShAt w T p l := by
  intro i hi
  obtain ⟨g, o, a, m, c, rfl, hS, hc, hd, hl, hr, hn⟩ := h i hi
  exact ⟨g, o, a, m, c, rfl, hT _ (World.block_lt_of_cell? w _ hc) hS, hc, hd, hl, hr.mono hT, hn⟩

/-- What a Client tells. -/
structure Cl where
  R : List UInt8
  ses : List UInt8
  suites : List Int
  vers : List Int
  grps : List Int
  schs : List Int
  shs : List (Int × List UInt8)
  cook : List UInt8
  modes : List UInt8
  ids : List (List UInt8 × Int)
  bnd : List (List UInt8)
/-- Its ten slices. -/
structure Z10 where
  p1 : Option Addr
  n1 : Nat
  c1 : Nat
  p2 : Option Addr
  n2 : Nat
  c2 : Nat
  p3 : Option Addr
  n3 : Nat
  c3 : Nat
  p4 : Option Addr
  n4 : Nat
  c4 : Nat
  p5 : Option Addr
  n5 : Nat
  c5 : Nat
  p6 : Option Addr
  n6 : Nat
  c6 : Nat
  p7 : Option Addr
  n7 : Nat
  c7 : Nat
  p8 : Option Addr
  n8 : Nat
  c8 : Nat
  p9 : Option Addr
  n9 : Nat
  c9 : Nat
  p10 : Option Addr
  n10 : Nat
  c10 : Nat
def clL (z : Z10) : List Value := [.slice z.p1 z.n1 z.c1, .slice z.p2 z.n2 z.c2, .slice z.p3 z.n3 z.c3, .slice z.p4 z.n4 z.c4, .slice z.p5 z.n5 z.c5, .slice z.p6 z.n6 z.c6, .slice z.p7 z.n7 z.c7, .slice z.p8 z.n8 z.c8, .slice z.p9 z.n9 z.c9, .slice z.p10 z.n10 z.c10]
/-- The cells. -/
def clV (s : Cl) (z : Z10) : Array Value := (s.R.map B8 ++ clL z).toArray
/-- Its slices lie in blocks of S. -/
structure IsCl (w : World) (S : Nat → Prop) (s : Cl) (z : Z10) : Prop where
  len : s.R.length = 32
  s1 : s.ses.length = z.n1 ∧ Rd w S z.p1 s.ses ∧ (z.p1 = none → z.c1 = 0) ∧ z.n1 ≤ z.c1 ∧ z.c1 ≤ maxLen
  s2 : s.suites.length = z.n2 ∧ RdI w S z.p2 s.suites ∧ (z.p2 = none → z.c2 = 0) ∧ z.n2 ≤ z.c2 ∧ z.c2 ≤ maxLen
  s3 : s.vers.length = z.n3 ∧ RdI w S z.p3 s.vers ∧ (z.p3 = none → z.c3 = 0) ∧ z.n3 ≤ z.c3 ∧ z.c3 ≤ maxLen
  s4 : s.grps.length = z.n4 ∧ RdI w S z.p4 s.grps ∧ (z.p4 = none → z.c4 = 0) ∧ z.n4 ≤ z.c4 ∧ z.c4 ≤ maxLen
  s5 : s.schs.length = z.n5 ∧ RdI w S z.p5 s.schs ∧ (z.p5 = none → z.c5 = 0) ∧ z.n5 ≤ z.c5 ∧ z.c5 ≤ maxLen
  s6 : s.shs.length = z.n6 ∧ ShAt w S z.p6 s.shs ∧ (z.p6 = none → z.c6 = 0) ∧ z.n6 ≤ z.c6 ∧ z.c6 ≤ maxLen
  s7 : s.cook.length = z.n7 ∧ Rd w S z.p7 s.cook ∧ (z.p7 = none → z.c7 = 0) ∧ z.n7 ≤ z.c7 ∧ z.c7 ≤ maxLen
  s8 : s.modes.length = z.n8 ∧ Rd w S z.p8 s.modes ∧ (z.p8 = none → z.c8 = 0) ∧ z.n8 ≤ z.c8 ∧ z.c8 ≤ maxLen
  s9 : s.ids.length = z.n9 ∧ IdAt w S z.p9 s.ids ∧ (z.p9 = none → z.c9 = 0) ∧ z.n9 ≤ z.c9 ∧ z.c9 ≤ maxLen
  s10 : s.bnd.length = z.n10 ∧ BdAt w S z.p10 s.bnd ∧ (z.p10 = none → z.c10 = 0) ∧ z.n10 ≤ z.c10 ∧ z.c10 ≤ maxLen
section
variable {w w' : World} {S T X : Nat → Prop} {s : Cl} {z : Z10} {r t : Nat}
theorem IsCl.only (h : IsCl w S s z) (ho : Only X w w') (hX : ∀ k, S k → ¬ X k) : IsCl w' S s z :=
  ⟨h.len, ⟨h.s1.1, h.s1.2.1.only ho hX, h.s1.2.2⟩, ⟨h.s2.1, h.s2.2.1.only ho hX, h.s2.2.2⟩, ⟨h.s3.1, h.s3.2.1.only ho hX, h.s3.2.2⟩, ⟨h.s4.1, h.s4.2.1.only ho hX, h.s4.2.2⟩, ⟨h.s5.1, h.s5.2.1.only ho hX, h.s5.2.2⟩, ⟨h.s6.1, h.s6.2.1.only ho hX, h.s6.2.2⟩, ⟨h.s7.1, h.s7.2.1.only ho hX, h.s7.2.2⟩, ⟨h.s8.1, h.s8.2.1.only ho hX, h.s8.2.2⟩, ⟨h.s9.1, h.s9.2.1.only ho hX, h.s9.2.2⟩, ⟨h.s10.1, h.s10.2.1.only ho hX, h.s10.2.2⟩⟩
theorem IsCl.mono (h : IsCl w S s z) (hT : ∀ k, k < w.heap.size → S k → T k) : IsCl w T s z :=
  ⟨h.len, ⟨h.s1.1, h.s1.2.1.mono hT, h.s1.2.2⟩, ⟨h.s2.1, h.s2.2.1.mono hT, h.s2.2.2⟩, ⟨h.s3.1, h.s3.2.1.mono hT, h.s3.2.2⟩, ⟨h.s4.1, h.s4.2.1.mono hT, h.s4.2.2⟩, ⟨h.s5.1, h.s5.2.1.mono hT, h.s5.2.2⟩, ⟨h.s6.1, h.s6.2.1.mono hT, h.s6.2.2⟩, ⟨h.s7.1, h.s7.2.1.mono hT, h.s7.2.2⟩, ⟨h.s8.1, h.s8.2.1.mono hT, h.s8.2.2⟩, ⟨h.s9.1, h.s9.2.1.mono hT, h.s9.2.2⟩, ⟨h.s10.1, h.s10.2.1.mono hT, h.s10.2.2⟩⟩
theorem IsCl.below (h : IsCl w S s z) (hb : Below w.heap.size w w') : IsCl w' S s z := h.only (Only.of_below (r := fun _ => False) hb) (fun _ _ h => h)
theorem clV_size (s : Cl) (z : Z10) (h : s.R.length = 32) : (clV s z).size = 42 := by simp [clV, clL, h]
theorem clV_get (s : Cl) (z : Z10) (h : s.R.length = 32) (k : Nat) : (clV s z)[32 + k]? = (clL z)[k]? := by
  unfold clV
  rw [List.getElem?_toArray, List.getElem?_append_right (by simp [h])]
  simp [h]
theorem clV_rnd (s : Cl) (z : Z10) (h : s.R.length = 32) (k : Nat) (hk : k < 32) : (clV s z)[k]? = some (B8 (s.R[k]'(by rw [h]; exact hk))) := by
  unfold clV
  rw [List.getElem?_toArray, List.getElem?_append_left (by simp [h]; exact hk)]
  simp [h, hk]
theorem Blk.d32 (h : Blk w r t (clV s z)) (hl : s.R.length = 32) : w.cell? ⟨r, 32, none⟩ = some (.slice z.p1 z.n1 z.c1) := (h.c 32).trans (clV_get s z hl 0)
theorem Blk.d33 (h : Blk w r t (clV s z)) (hl : s.R.length = 32) : w.cell? ⟨r, 33, none⟩ = some (.slice z.p2 z.n2 z.c2) := (h.c 33).trans (clV_get s z hl 1)
theorem Blk.d34 (h : Blk w r t (clV s z)) (hl : s.R.length = 32) : w.cell? ⟨r, 34, none⟩ = some (.slice z.p3 z.n3 z.c3) := (h.c 34).trans (clV_get s z hl 2)
theorem Blk.d35 (h : Blk w r t (clV s z)) (hl : s.R.length = 32) : w.cell? ⟨r, 35, none⟩ = some (.slice z.p4 z.n4 z.c4) := (h.c 35).trans (clV_get s z hl 3)
theorem Blk.d36 (h : Blk w r t (clV s z)) (hl : s.R.length = 32) : w.cell? ⟨r, 36, none⟩ = some (.slice z.p5 z.n5 z.c5) := (h.c 36).trans (clV_get s z hl 4)
theorem Blk.d37 (h : Blk w r t (clV s z)) (hl : s.R.length = 32) : w.cell? ⟨r, 37, none⟩ = some (.slice z.p6 z.n6 z.c6) := (h.c 37).trans (clV_get s z hl 5)
theorem Blk.d38 (h : Blk w r t (clV s z)) (hl : s.R.length = 32) : w.cell? ⟨r, 38, none⟩ = some (.slice z.p7 z.n7 z.c7) := (h.c 38).trans (clV_get s z hl 6)
theorem Blk.d39 (h : Blk w r t (clV s z)) (hl : s.R.length = 32) : w.cell? ⟨r, 39, none⟩ = some (.slice z.p8 z.n8 z.c8) := (h.c 39).trans (clV_get s z hl 7)
theorem Blk.d40 (h : Blk w r t (clV s z)) (hl : s.R.length = 32) : w.cell? ⟨r, 40, none⟩ = some (.slice z.p9 z.n9 z.c9) := (h.c 40).trans (clV_get s z hl 8)
theorem Blk.d41 (h : Blk w r t (clV s z)) (hl : s.R.length = 32) : w.cell? ⟨r, 41, none⟩ = some (.slice z.p10 z.n10 z.c10) := (h.c 41).trans (clV_get s z hl 9)
theorem Blk.crnd (h : Blk w r t (clV s z)) (hl : s.R.length = 32) : w.rangeAt r 0 (s.R.map B8) := by
  intro j v hv
  simp only [List.getElem?_map, Option.map_eq_some_iff] at hv
  obtain ⟨x, hx, rfl⟩ := hv
  obtain ⟨hj, rfl⟩ := List.getElem?_eq_some_iff.1 hx
  rw [h.c, Nat.zero_add]
  exact clV_rnd s z hl j (by rw [← hl]; exact hj)
end
theorem clV_ones (s : Cl) (z : Z10) : (clV s z).all (·.oneCell') = true := by
  refine all_oneCell_toArray (fun v hv => ?_)
  rw [List.mem_append] at hv
  rcases hv with hv | hv
  · simp only [List.mem_map] at hv
    obtain ⟨b, _, rfl⟩ := hv
    rfl
  · simp only [clL, List.mem_cons, List.not_mem_nil, or_false] at hv
    rcases hv with h | h | h | h | h | h | h | h | h | h <;> subst h <;> rfl
theorem Try.infoCl : (Try.prog.info? 56).map (·.size) = some 42 := by kernel_rfl
theorem Try.infoRc : (Try.prog.info? 48).map (·.size) = some 42 := by kernel_rfl
end Go.Proofs.Ytegmimnhkohaoaa
/-
  What the closures of hello.PutClient put. Conditions: those of Fit (at most 2 to the 46th bytes in all).
-/
namespace Go.Proofs.Ytegmimnhkohaoaa
open Go.RowKit Go.Kx
set_option linter.unusedVariables false
set_option linter.unusedSimpArgs false
set_option maxRecDepth 100000

/-- There is room for all of it. -/
structure Fit (s : Cl) : Prop where
  f1 : s.suites.length ≤ 8796093022208
  f2 : s.vers.length ≤ 8796093022208
  f3 : s.grps.length ≤ 8796093022208
  f4 : s.schs.length ≤ 8796093022208
  f5 : 65541 * s.shs.length ≤ 70368744177664
  f6 : 65541 * s.ids.length ≤ 70368744177664
  f7 : 256 * s.bnd.length ≤ 70368744177664
def wSh (x : WS) (l : List (Int × List UInt8)) : WS := l.foldl (fun y t => wS y t.1 t.2) x
theorem wSh_snoc (x : WS) (l : List (Int × List UInt8)) (t : Int × List UInt8) : wSh x (l ++ [t]) = wS (wSh x l) t.1 t.2 := by unfold wSh; simp only [List.foldl_append, List.foldl_cons, List.foldl_nil]
theorem wSh_len (l : List (Int × List UInt8)) : ∀ x : WS, (wSh x l).1.length ≤ x.1.length + 65541 * l.length := by
  induction l with
  | nil => intro x; unfold wSh; simp only [List.foldl_nil, List.length_nil]; omega
  | cons b t ih =>
    intro x
    have h1 := ih (wS x b.1 b.2)
    have h2 := wV_len (wU x b.1 2) b.2 2 1 64 (by decide)
    have h3 := wU_len x b.1 2 (by decide)
    have h4 : (wS x b.1 b.2).1.length ≤ x.1.length + 65541 := by unfold wS; omega
    have h5 : wSh x (b :: t) = wSh (wS x b.1 b.2) t := by unfold wSh; simp only [List.foldl_cons]
    rw [h5, List.length_cons]
    omega
def yC1 (s : Cl) : WS := wL ([], false) s.vers 1 4
def yC2 (s : Cl) : WS := wL ([], false) s.grps 2 4
def yC3 (s : Cl) : WS := wL ([], false) s.schs 2 4
def yC5 (s : Cl) : WS := wV ([], false) s.cook 2 1 64
def yC6 (s : Cl) : WS := wV ([], false) s.modes 1 1 4
def yC4 (s : Cl) : WS := wN (wM ([], false) (decide (s.shs.length ≤ 4))) (wSh ([], false) s.shs) 2
def yC7 (s : Cl) : WS := wN (wN ([], false) (wId (wM ([], false) (decide (s.ids.length ≤ 4))) s.ids) 2) (wB ([], false) s.bnd) 2
attribute [local irreducible] wV wU wS wL wN
theorem pc1_c (s : Cl) (z : Z10) (M q : Nat) (w : World) (h : IsCl w (· < M) s z) (hM : M ≤ w.heap.size) (hB : Blk w q 56 (clV s z)) (hf : Fit s) : Puts w 87 (rp q) (yC1 s) := by
  refine ⟨fun _ _ => by kernel_rfl, fun r w1 hr hb hW => ?_⟩
  have c := (hB.below hb).d34 h.len
  have H3 := Lib.hid (And.intro (h.below hb).s3 hf.f2)
  clear h hb hf hB
  go_enter Try.func87, Try.ntmps87
  go_wp2_with (go_at_call 51; refine (wlist_c r _ _ _ _ s.vers 1 4 _ hW (H3.out.1.2.1.mono (fun k _ hk => by omega)) H3.out.1.1 (by rw [← H3.out.1.1]; exact H3.out.2) nil_le (by decide)).mono ?_; rintro e w2 ⟨rfl, hX, ho⟩)
  go_end0
  exact ⟨rfl, hX, ho⟩
theorem pc2_c (s : Cl) (z : Z10) (M q : Nat) (w : World) (h : IsCl w (· < M) s z) (hM : M ≤ w.heap.size) (hB : Blk w q 56 (clV s z)) (hf : Fit s) : Puts w 88 (rp q) (yC2 s) := by
  refine ⟨fun _ _ => by kernel_rfl, fun r w1 hr hb hW => ?_⟩
  have c := (hB.below hb).d35 h.len
  have H3 := Lib.hid (And.intro (h.below hb).s4 hf.f3)
  clear h hb hf hB
  go_enter Try.func88, Try.ntmps88
  go_wp2_with (go_at_call 51; refine (wlist_c r _ _ _ _ s.grps 2 4 _ hW (H3.out.1.2.1.mono (fun k _ hk => by omega)) H3.out.1.1 (by rw [← H3.out.1.1]; exact H3.out.2) nil_le (by decide)).mono ?_; rintro e w2 ⟨rfl, hX, ho⟩)
  go_end0
  exact ⟨rfl, hX, ho⟩
theorem pc3_c (s : Cl) (z : Z10) (M q : Nat) (w : World) (h : IsCl w (· < M) s z) (hM : M ≤ w.heap.size) (hB : Blk w q 56 (clV s z)) (hf : Fit s) : Puts w 89 (rp q) (yC3 s) := by
  refine ⟨fun _ _ => by kernel_rfl, fun r w1 hr hb hW => ?_⟩
  have c := (hB.below hb).d36 h.len
  have H3 := Lib.hid (And.intro (h.below hb).s5 hf.f4)
  clear h hb hf hB
  go_enter Try.func89, Try.ntmps89
  go_wp2_with (go_at_call 51; refine (wlist_c r _ _ _ _ s.schs 2 4 _ hW (H3.out.1.2.1.mono (fun k _ hk => by omega)) H3.out.1.1 (by rw [← H3.out.1.1]; exact H3.out.2) nil_le (by decide)).mono ?_; rintro e w2 ⟨rfl, hX, ho⟩)
  go_end0
  exact ⟨rfl, hX, ho⟩
theorem pc5_c (s : Cl) (z : Z10) (M q : Nat) (w : World) (h : IsCl w (· < M) s z) (hM : M ≤ w.heap.size) (hB : Blk w q 56 (clV s z)) : Puts w 92 (rp q) (yC5 s) := by
  refine ⟨fun _ _ => by kernel_rfl, fun r w1 hr hb hW => ?_⟩
  have c := (hB.below hb).d38 h.len
  have H3 := Lib.hid (h.below hb).s7
  clear h hb hB
  go_enter Try.func92, Try.ntmps92
  go_wp2_with (go_at_call 31; refine (wvec_c r _ _ _ _ s.cook 2 1 64 _ hW H3.out.1 (H3.out.2.1.mono (fun k _ hk => by omega)) H3.out.2.2.1 (by decide) nil_le).mono ?_; rintro e w2 ⟨rfl, hX, ho⟩)
  go_end0
  exact ⟨rfl, hX, ho⟩
theorem pc6_c (s : Cl) (z : Z10) (M q : Nat) (w : World) (h : IsCl w (· < M) s z) (hM : M ≤ w.heap.size) (hB : Blk w q 56 (clV s z)) : Puts w 93 (rp q) (yC6 s) := by
  refine ⟨fun _ _ => by kernel_rfl, fun r w1 hr hb hW => ?_⟩
  have c := (hB.below hb).d39 h.len
  have H3 := Lib.hid (h.below hb).s8
  clear h hb hB
  go_enter Try.func93, Try.ntmps93
  go_wp2_with (go_at_call 31; refine (wvec_c r _ _ _ _ s.modes 1 1 4 _ hW H3.out.1 (H3.out.2.1.mono (fun k _ hk => by omega)) H3.out.2.2.1 (by decide) nil_le).mono ?_; rintro e w2 ⟨rfl, hX, ho⟩)
  go_end0
  exact ⟨rfl, hX, ho⟩
end Go.Proofs.Ytegmimnhkohaoaa
