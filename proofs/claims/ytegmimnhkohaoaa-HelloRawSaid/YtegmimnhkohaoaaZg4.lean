/-
  The contracts of hello.retry and relayref08.Retry: one number, told by both. No condition.
-/
import Derived.Test.YtegmimnhkohaoaaZRSum
import Derived.Test.YtegmimnhkohaoaaZg1
import Derived.Test.YtegmimnhkohaoaaZg2
import Derived.Deep.MidRow
import Derived.Stop.BytesEq
import Derived.WalkKit
import Derived.ProofKit
import Derived.Test.YtegmimnhkohaoaaZg3
import Derived.Deep.RegionLaw
namespace Go.Proofs.Ytegmimnhkohaoaa
open Go.RowKit Go.Kx
set_option linter.unusedVariables false
set_option linter.unusedSimpArgs false

def retryText : List UInt8 := [72, 101, 108, 108, 111, 82, 101, 116, 114, 121, 82, 101, 113, 117, 101, 115, 116]
/-- The random number of a retry. -/
def retryL : List UInt8 := sumL retryText
theorem retryL_len : retryL.length = 32 := sumL_len _
theorem retryL_ne : retryL ≠ List.replicate 32 0 := by decide +kernel

theorem Arr.conv (w : World) (o : Obj) (C : Array Value) : (convert 23 23 (.slice (some ⟨w.heap.size + 1, 0, none⟩) 17 17)).run Try.prog ((w.alloc o).alloc (.cells C 5)) = .ok (.slice (some ⟨w.heap.size + 1, 0, none⟩) 17 17) ((w.alloc o).alloc (.cells C 5 (C.size, C.size + 1))) := by
  have h := Lib.run_convert_bytes_const (P := Try.prog) (w.alloc o) 23 5 C 17 17 Try.underlying23 Try.underlying5
  simpa only [World.size_alloc] using h
theorem retry_rd (w : World) (o : Obj) (m : Nat × Nat) : Rd ((w.alloc o).alloc (.cells (retryText.map B8).toArray 5 m)) (fun _ => True) (some ⟨w.heap.size + 1, 0, none⟩) retryText := by
  have h := Rd.litm (w.alloc o) retryText m
  rw [World.size_alloc] at h
  exact h.mono (fun _ _ _ => trivial)

set_option maxRecDepth 100000 in
set_option maxHeartbeats 4000000 in
theorem retry_c (w : World) : Calls Try.prog 29 #[] w (SumR w retryL) := by
  have hcv := Arr.conv w
  have hz : ∀ m, ArrB ((w.alloc (.cells ((List.replicate 32 (0 : UInt8)).map B8).toArray 22)).alloc (.cells (retryText.map B8).toArray 5 m)) w.heap.size 22 (List.replicate 32 0) := fun m => (ArrB.new w _ _).below ((Below.refl _ _).alloc (Nat.le_refl _) _)
  have hB : ∀ m, Below w.heap.size w ((w.alloc (.cells ((List.replicate 32 (0 : UInt8)).map B8).toArray 22)).alloc (.cells (retryText.map B8).toArray 5 m)) := fun m => (((Below.refl _ _).alloc (Nat.le_refl _) _)).alloc (by simp) _
  have hrr := fun o m => retry_rd w o m
  have HZ := Lib.hid (And.intro hz (And.intro hB hrr))
  clear hz hB hrr
  go_enter Try.func29, Try.ntmps29
  go_upto_region 1 with (fail)
  go_wp2_with (first
    | (go_at_call 66; refine (sum_c (fun _ => True) _ 17 17 retryText _ (HZ.out.2.2 _ _) (by intro h; cases h) (by decide) rfl).mono ?_; rintro e w1 ⟨rfl, b1⟩; have A1 := (HZ.out.1 _).below b1; have HA1 := Lib.hid A1; have HB1 := Lib.hid b1; have L1 := A1.lt; clear A1 b1)
    | (refine st_arrB rfl 22 (.tmp 0) _ rfl w.heap.size retryL rfl rfl _ _ HA1.out (by rw [retryL_len]; exact Try.infoB32) (by rw [retryL_len]; rfl) ?_; intro w7 hA7 hO7))
  refine bodyPost_ret (v := .agg (retryL.map B8).toArray) (results_cell_row (P := Try.prog) Try.results29 _ _ w.heap.size _ _ _ _ rfl hA7 Try.underlying22 rfl (by rw [Try.infoB32]; simp [retryL_len])) rfl (And.intro rfl ?_)
  have h2 := (HZ.out.2.1 _).trans (HB1.out.mono (by simp; omega))
  exact below_only h2 h2.size hO7 (by intro k hk e; omega)

set_option maxRecDepth 100000 in
set_option maxHeartbeats 4000000 in
theorem rretry_c (w : World) : Calls Try.prog 37 #[] w (SumR w retryL) := by
  have hcv := Arr.conv w
  have hz : ∀ m, ArrB ((w.alloc (.cells ((List.replicate 32 (0 : UInt8)).map B8).toArray 22)).alloc (.cells (retryText.map B8).toArray 5 m)) w.heap.size 22 (List.replicate 32 0) := fun m => (ArrB.new w _ _).below ((Below.refl _ _).alloc (Nat.le_refl _) _)
  have hB : ∀ m, Below w.heap.size w ((w.alloc (.cells ((List.replicate 32 (0 : UInt8)).map B8).toArray 22)).alloc (.cells (retryText.map B8).toArray 5 m)) := fun m => (((Below.refl _ _).alloc (Nat.le_refl _) _)).alloc (by simp) _
  have hrr := fun o m => retry_rd w o m
  have HZ := Lib.hid (And.intro hz (And.intro hB hrr))
  clear hz hB hrr
  go_enter Try.func37, Try.ntmps37
  go_upto_region 1 with (fail)
  go_wp2_with (first
    | (go_at_call 75; refine (rsum_c (fun _ => True) _ 17 17 retryText _ (HZ.out.2.2 _ _) (by intro h; cases h) (by decide) rfl).mono ?_; rintro e w1 ⟨rfl, b1⟩; have A1 := (HZ.out.1 _).below b1; have HA1 := Lib.hid A1; have HB1 := Lib.hid b1; have L1 := A1.lt; clear A1 b1)
    | (refine st_arrB rfl 22 (.tmp 0) _ rfl w.heap.size retryL rfl rfl _ _ HA1.out (by rw [retryL_len]; exact Try.infoB32) (by rw [retryL_len]; rfl) ?_; intro w7 hA7 hO7))
  refine bodyPost_ret (v := .agg (retryL.map B8).toArray) (results_cell_row (P := Try.prog) Try.results37 _ _ w.heap.size _ _ _ _ rfl hA7 Try.underlying22 rfl (by rw [Try.infoB32]; simp [retryL_len])) rfl (And.intro rfl ?_)
  have h2 := (HZ.out.2.1 _).trans (HB1.out.mono (by simp; omega))
  exact below_only h2 h2.size hO7 (by intro k hk e; omega)
end Go.Proofs.Ytegmimnhkohaoaa
/-
  A Server (of hello or of the document) by value and in a block; arrays of 32 bytes compared; what the greeting's closures put. No condition but those that each theorem states.
-/
namespace Go.Kx
open Go.RowKit
theorem wpList_load_any {P : Program} {ops : Array Oper} {rest : List Oper} {op : Oper} {a : Act} {w : World} {Q : Exit → Act → World → Prop} (hw : Region.wanted op (yielded ops a.tmps) = true) (ty : TypeId) (x : Operand) (ho : op.op = .load ty x)
    (b o : Nat) (hx : a.eval x = .pointer (some ⟨b, o, none⟩)) (cs : List Value) (d : TypeDesc) (hc : w.rangeAt b o cs) (hu : P.underlying ty = some d) (hd : d.isRow = true) (hi : (P.info? ty).map (·.size) = some cs.length)
    (h : wpList P ops Q rest (a.put op.dst (.agg cs.toArray)) w) : wpList P ops Q (op :: rest) a w :=
  wpList_step fun _ hK => by rw [if_pos hw]; exact wp_load_mid ty x ho b o hx cs d hc hu hd hi (hK _ _ h)
theorem step_load_mid {P : Program} {ops : Array Oper} {w : World} {o : Oper} {a : Act} {K : Act → World → Prop} {Q : Exit → Act → World → Prop} {E : Prop} (hgd : o.guard = none) (ty : TypeId) (x : Operand) (ho : o.op = .load ty x)
    (b k : Nat) (hx : a.eval x = .pointer (some ⟨b, k, none⟩)) (cs : List Value) (d : TypeDesc) (hc : w.rangeAt b k cs) (hu : P.underlying ty = some d) (hd : d.isRow = true) (hi : (P.info? ty).map (·.size) = some cs.length)
    (h : K (a.put o.dst (.agg cs.toArray)) w) : if Region.wanted o (yielded ops a.tmps) = true then Oper.wp P o a w K Q else E := by
  rw [if_pos (by simp [Region.wanted, hgd])]
  exact wp_load_mid ty x ho b k hx cs d hc hu hd hi h
end Go.Kx
namespace Go.Proofs.Ytegmimnhkohaoaa
open Go.RowKit Go.Kx
set_option linter.unusedVariables false
set_option linter.unusedSimpArgs false

/-- What a Server tells. -/
structure Sv where
  R : List UInt8
  ses : List UInt8
  suite : Int
  ver : Int
  grp : Int
  key : List UInt8
  retry : Bool
  cook : List UInt8
  psk : Int
def svC (s : Sv) (a b c : Value) : Array Value := (s.R.map B8 ++ [a, .int .i64 s.suite, .int .i64 s.ver, .int .i64 s.grp, b, .bool s.retry, c, .int .i64 s.psk]).toArray
/-- A slice of bytes below M. -/
def Sl (w : World) (M : Nat) (p : Option Addr) (n c : Nat) (l : List UInt8) : Prop := l.length = n ∧ Rd w (· < M) p l ∧ (p = none → c = 0)
theorem Sl.below {w w' : World} {M : Nat} {p : Option Addr} {n c : Nat} {l : List UInt8} (h : Sl w M p n c l) (hb : Below w.heap.size w w') : Sl w' M p n c l := ⟨h.1, h.2.1.below hb, h.2.2⟩
theorem Sl.only {w w' : World} {M : Nat} {q : Nat → Prop} {p : Option Addr} {n c : Nat} {l : List UInt8} (h : Sl w M p n c l) (ho : Only q w w') (hq : ∀ k, k < M → ¬ q k) : Sl w' M p n c l := ⟨h.1, h.2.1.only ho hq, h.2.2⟩
theorem Sl.mono {w : World} {M N : Nat} {p : Option Addr} {n c : Nat} {l : List UInt8} (h : Sl w M p n c l) (hb : M ≤ N) : Sl w N p n c l := ⟨h.1, h.2.1.mono (fun k _ hk => by omega), h.2.2⟩

/-- Its three slices as a bundle. -/
structure S3 where
  p1 : Option Addr
  n1 : Nat
  c1 : Nat
  p2 : Option Addr
  n2 : Nat
  c2 : Nat
  p3 : Option Addr
  n3 : Nat
  c3 : Nat
/-- The cells. -/
def svV (s : Sv) (z : S3) : Array Value := svC s (.slice z.p1 z.n1 z.c1) (.slice z.p2 z.n2 z.c2) (.slice z.p3 z.n3 z.c3)
structure IsSv (w : World) (M : Nat) (s : Sv) (z : S3) : Prop where
  len : s.R.length = 32
  s1 : Sl w M z.p1 z.n1 z.c1 s.ses
  s2 : Sl w M z.p2 z.n2 z.c2 s.key
  s3 : Sl w M z.p3 z.n3 z.c3 s.cook
theorem IsSv.below {w w' : World} {M : Nat} {s : Sv} {z : S3} (h : IsSv w M s z) (hb : Below w.heap.size w w') : IsSv w' M s z := ⟨h.len, h.s1.below hb, h.s2.below hb, h.s3.below hb⟩
theorem IsSv.only {w w' : World} {M : Nat} {q : Nat → Prop} {s : Sv} {z : S3} (h : IsSv w M s z) (hb : Only q w w') (hq : ∀ k, k < M → ¬ q k) : IsSv w' M s z := ⟨h.len, h.s1.only hb hq, h.s2.only hb hq, h.s3.only hb hq⟩
theorem svV_size {w : World} {M : Nat} {s : Sv} {z : S3} (h : IsSv w M s z) : (svV s z).size = 40 := by simp [svV, svC, h.len]
theorem svV_get {w : World} {M : Nat} {s : Sv} {z : S3} (h : IsSv w M s z) (k : Nat) : (svV s z)[32 + k]? = [.slice z.p1 z.n1 z.c1, .int .i64 s.suite, .int .i64 s.ver, .int .i64 s.grp, .slice z.p2 z.n2 z.c2, .bool s.retry, .slice z.p3 z.n3 z.c3, .int .i64 s.psk][k]? := by
  unfold svV svC
  rw [List.getElem?_toArray, List.getElem?_append_right (by simp [h.len])]
  simp [h.len]
theorem svV_rnd {w : World} {M : Nat} {s : Sv} {z : S3} (h : IsSv w M s z) (k : Nat) (hk : k < 32) : (svV s z)[k]? = some (B8 (s.R[k]'(by rw [h.len]; exact hk))) := by
  unfold svV svC
  rw [List.getElem?_toArray, List.getElem?_append_left (by simp [h.len]; exact hk)]
  simp [h.len, hk]

/-- A block that is a Server. -/
def Blk (w : World) (r t : Nat) (C : Array Value) : Prop := w.heap[r]? = some (.cells C t (0, 0))
theorem Blk.lt {w : World} {r t : Nat} {C : Array Value} (h : Blk w r t C) : r < w.heap.size := (Array.getElem?_eq_some_iff.1 h).1
theorem Blk.below {w w' : World} {r t : Nat} {C : Array Value} (h : Blk w r t C) (hb : Below w.heap.size w w') : Blk w' r t C := (hb.block r h.lt).trans h
theorem Blk.only {w w' : World} {q : Nat → Prop} {r t : Nat} {C : Array Value} (h : Blk w r t C) (hb : Only q w w') (hq : ¬ q r) : Blk w' r t C := (hb.block r h.lt hq).trans h
theorem Blk.new (w : World) (t : Nat) (C : Array Value) : Blk (w.alloc (.cells C t)) w.heap.size t C := heap_alloc_new w _
theorem Blk.c {w : World} {r t : Nat} {C : Array Value} (h : Blk w r t C) (o : Nat) : w.cell? ⟨r, o, none⟩ = C[o]? := by unfold Blk at h; simp [World.cell?, h]
theorem Blk.fr {w : World} {r t : Nat} {C : Array Value} (h : Blk w r t C) (o : Nat) : w.frozen? ⟨r, o, none⟩ = false := by unfold Blk at h; simp [World.frozen?, h]
theorem Blk.range {w : World} {r t : Nat} {C : Array Value} (h : Blk w r t C) : w.rangeAt r 0 C.toList := by
  intro j v hv
  rw [h.c, Nat.zero_add]
  simpa using hv
section
variable {w w' : World} {M r t : Nat} {s : Sv} {z : S3}
theorem Blk.c32 (h : Blk w r t (svV s z)) (i : IsSv w' M s z) : w.cell? ⟨r, 32, none⟩ = some (.slice z.p1 z.n1 z.c1) := (h.c 32).trans (svV_get i 0)
theorem Blk.c33 (h : Blk w r t (svV s z)) (i : IsSv w' M s z) : w.cell? ⟨r, 33, none⟩ = some (.int .i64 s.suite) := (h.c 33).trans (svV_get i 1)
theorem Blk.c34 (h : Blk w r t (svV s z)) (i : IsSv w' M s z) : w.cell? ⟨r, 34, none⟩ = some (.int .i64 s.ver) := (h.c 34).trans (svV_get i 2)
theorem Blk.c35 (h : Blk w r t (svV s z)) (i : IsSv w' M s z) : w.cell? ⟨r, 35, none⟩ = some (.int .i64 s.grp) := (h.c 35).trans (svV_get i 3)
theorem Blk.c36 (h : Blk w r t (svV s z)) (i : IsSv w' M s z) : w.cell? ⟨r, 36, none⟩ = some (.slice z.p2 z.n2 z.c2) := (h.c 36).trans (svV_get i 4)
theorem Blk.c37 (h : Blk w r t (svV s z)) (i : IsSv w' M s z) : w.cell? ⟨r, 37, none⟩ = some (.bool s.retry) := (h.c 37).trans (svV_get i 5)
theorem Blk.c38 (h : Blk w r t (svV s z)) (i : IsSv w' M s z) : w.cell? ⟨r, 38, none⟩ = some (.slice z.p3 z.n3 z.c3) := (h.c 38).trans (svV_get i 6)
theorem Blk.c39 (h : Blk w r t (svV s z)) (i : IsSv w' M s z) : w.cell? ⟨r, 39, none⟩ = some (.int .i64 s.psk) := (h.c 39).trans (svV_get i 7)
theorem Blk.rnd (h : Blk w r t (svV s z)) (i : IsSv w' M s z) : w.rangeAt r 0 (s.R.map B8) := by
  intro j v hv
  simp only [List.getElem?_map, Option.map_eq_some_iff] at hv
  obtain ⟨x, hx, rfl⟩ := hv
  obtain ⟨hj, rfl⟩ := List.getElem?_eq_some_iff.1 hx
  rw [h.c, Nat.zero_add]
  exact svV_rnd i j (by rw [← i.len]; exact hj)
end
theorem Try.infoSv : (Try.prog.info? 33).map (·.size) = some 40 := by kernel_rfl
theorem Try.infoRv : (Try.prog.info? 27).map (·.size) = some 40 := by kernel_rfl

/-! ### Arrays of 32 bytes -/
theorem run_sizeOf1 (w : World) : (sizeOf 5).run Try.prog w = .ok 1 w := by
  have h : (Try.prog.info? 5).map (·.size) = some 1 := by kernel_rfl
  cases hq : Try.prog.info? 5 with
  | none => simp [hq] at h
  | some i =>
    have h2 : i.size = 1 := by simpa [hq] using h
    simp [sizeOf, typeInfo, hq, h2]
theorem Try.guard32 : Try.prog.eqGuardType Try.prog.depth 22 = false := by kernel_rfl
theorem run_eq32 (w : World) (d : Nat) (A B : List UInt8) (hA : A.length = 32) (hB : B.length = 32) : (Op.equalIn (d + 2) 22 (.agg (A.map B8).toArray) (.agg (B.map B8).toArray)).run Try.prog w = .ok (A == B) w :=
  run_equalIn_bytes w d 22 5 32 Try.underlying22 Try.underlying5 run_sizeOf1 A B hA hB

/-! ### What goes together -/
theorem beq_cast (n : Nat) : ((n : Int) == 0) = decide (n = 0) := by by_cases h : n = 0 <;> simp [h]
def fitsS (s : Sv) : Bool := if s.retry then (decide (s.key.length = 0) && decide (s.psk = -1)) && (decide (s.grp ≠ 0) || decide (0 < s.cook.length)) else if s.R = retryL then false else (decide (s.cook.length = 0) && decide (-1 ≤ s.psk)) && (decide (s.grp ≠ 0) || decide (s.key.length = 0))

def BoolR (w : World) (b : Bool) (e : Ending) (w' : World) : Prop := e = .returned (.bool b) ∧ Below w.heap.size w w'
set_option maxHeartbeats 4000000 in
set_option maxRecDepth 100000 in
theorem fits_c (s : Sv) (z : S3) (M : Nat) (w : World) (h : IsSv w M s z) : Calls Try.prog 28 #[.agg (svV s z)] w (BoolR w (fitsS s)) := by
  have hB := Blk.new w 33 (svV s z)
  have hb0 : Below w.heap.size w (w.alloc (.cells (svV s z) 33)) := (Below.refl _ _).alloc (Nat.le_refl _) _
  have c35 := hB.c35 h
  have c36 := hB.c36 h
  have c37 := hB.c37 h
  have c38 := hB.c38 h
  have c39 := hB.c39 h
  have l2 := h.s2.1
  have l3 := h.s3.1
  have HB := Lib.hid (And.intro hB (And.intro hb0 h))
  obtain ⟨re, hre⟩ : ∃ re, re = s.retry := ⟨_, rfl⟩
  obtain ⟨bf, hbf⟩ : ∃ bf, bf = fitsS s := ⟨_, rfl⟩
  rw [← hre] at c37
  rw [← hbf]
  unfold fitsS at hbf
  rw [l2, l3, ← hre] at hbf
  have HBF := Lib.hid hbf
  clear hB hb0 h hbf hre
  cases re
  · go_enter Try.func28, Try.ntmps28
    go_upto_region 3 with (fail)
    have hs := fun w => run_eq32 w 9998 s.R retryL HB.out.2.2.len retryL_len
    have hg := Try.guard32
    obtain ⟨wq, hwq⟩ : ∃ wq, wq = w.alloc (.cells (svV s z) 33) := ⟨_, rfl⟩
    rw [← hwq]
    rw [← hwq] at c35 c36 c37 c38 c39 HB
    have HQ := Lib.hid hwq
    clear hwq
    have hI0 : Blk wq w.heap.size 33 (svV s z) ∧ Below w.heap.size w wq := ⟨HB.out.1, HB.out.2.1⟩
    have hI : Blk wq.drew w.heap.size 33 (svV s z) ∧ Below w.heap.size w wq.drew := ⟨HB.out.1, HB.out.2.1.drew⟩
    go_cut [28] (fun v28 wx => v28 = .bool (s.R == retryL) ∧ Blk wx w.heap.size 33 (svV s z) ∧ Below w.heap.size w wx)
    case first =>
      have hu := Try.underlying22
      have hi : (Try.prog.info? 22).map (·.size) = some (s.R.map B8).length := by rw [List.length_map, HB.out.2.2.len]; exact Try.infoB32
      go_region_held3 (fun w' => w'.rangeAt w.heap.size 0 (s.R.map B8)) (first | exact hI.1.rnd HB.out.2.2 | exact hI0.1.rnd HB.out.2.2) (first
        | (go_at_call 29; refine (retry_c _).mono ?_; rintro e w1 ⟨rfl, b1⟩; have hI2 : Blk w1 w.heap.size 33 (svV s z) ∧ Below w.heap.size w w1 := ⟨hI.1.below b1, hI.2.trans (b1.mono hI.2.size)⟩; clear hI; have hI := hI2; clear hI2))
      all_goals go_wp2
      all_goals go_meet
      all_goals exact ⟨rfl, hI⟩
    case rest =>
      obtain ⟨rfl, hI2⟩ := hcut
      have d35 := hI2.1.c35 HB.out.2.2
      have d36 := hI2.1.c36 HB.out.2.2
      have d38 := hI2.1.c38 HB.out.2.2
      have d39 := hI2.1.c39 HB.out.2.2
      clear hI hI0 c35 c36 c37 c38 c39 hs hg
      have HI := Lib.hid hI2
      clear hI2
      by_cases hR : s.R = retryL
      · have hb : (s.R == retryL) = true := by simpa using hR
        have HR := Lib.hid hR
        clear hR
        go_wp2
        all_goals go_ret
        all_goals (refine ⟨congrArg Ending.returned (congrArg Value.bool ?_), HI.out.2⟩)
        all_goals (have hx := HBF.out; have hr := HR.out; clear d35 d36 d38 d39 HB HBF l2 l3 HI HR; simp_all [beq_cast]; try (intros; omega))
      · have hb : (s.R == retryL) = false := by simpa using hR
        have HR := Lib.hid hR
        clear hR
        go_wp2
        all_goals go_ret
        all_goals (refine ⟨congrArg Ending.returned (congrArg Value.bool ?_), HI.out.2⟩)
        all_goals (have hx := HBF.out; have hr := HR.out; clear d35 d36 d38 d39 HB HBF l2 l3 HI HR; simp_all [beq_cast]; try (intros; omega))
  · go_enter Try.func28, Try.ntmps28
    go_wp2
    all_goals go_ret
    all_goals (refine ⟨congrArg Ending.returned (congrArg Value.bool ?_), HB.out.2.1⟩)
    all_goals (have hx := HBF.out; clear c35 c36 c37 c38 c39 HB HBF l2 l3; simp_all [beq_cast])
end Go.Proofs.Ytegmimnhkohaoaa
/-
  A Client (of hello or of the document) by value and in a block. No condition but those that each theorem states.
-/
namespace Go.Proofs.Ytegmimnhkohaoaa
open Go.RowKit Go.Kx
set_option linter.unusedVariables false
set_option linter.unusedSimpArgs false

/-- Groups and keys, side by side, from p on. -/
def ShAt (w : World) (S : Nat → Prop) (p : Option Addr) (l : List (Int × List UInt8)) : Prop := ∀ i (h : i < l.length), ∃ g o q m c, p = some ⟨g, o, none⟩ ∧ S g ∧ w.cell? ⟨g, o + i * 2, none⟩ = some (.int .i64 l[i].1) ∧ w.cell? ⟨g, o + i * 2 + 1, none⟩ = some (.slice q m c) ∧ l[i].2.length = m ∧ Rd w S q l[i].2 ∧ (q = none → c = 0)
theorem ShAt.only {w w' : World} {S q : Nat → Prop} {p : Option Addr} {l : List (Int × List UInt8)} (h : ShAt w S p l) (ho : Only q w w') (hq : ∀ k, S k → ¬ q k) : ShAt w' S p l := by
  intro i hi
  obtain ⟨g, o, a, m, c, rfl, hS, hc, hd, hl, hr, hn⟩ := h i hi
  exact ⟨g, o, a, m, c, rfl, hS, cell_kept ho (hq _ hS) hc, cell_kept ho (hq _ hS) hd, hl, hr.only ho hq, hn⟩
theorem ShAt.mono {w : World} {S T : Nat → Prop} {p : Option Addr} {l : List (Int × List UInt8)} (h : ShAt w S p l) (hT : ∀ k, k < w.heap.size → S k → T k) : ShAt w T p l := by
  intro i hi
  obtain ⟨g, o, a, m, c, rfl, hS, hc, hd, hl, hr, hn⟩ := h i hi
  exact ⟨g, o, a, m, c, rfl, hT _ (World.block_lt_of_cell? w _ hc) hS, hc, hd, hl, hr.mono hT, hn⟩

/-- What a Client tells. -/
structure Cl where
  R : List UInt8
  ses : List UInt8
  suites : List Int
  vers : List Int
  grps : List Int
  schs : List Int
  shs : List (Int × List UInt8)
  cook : List UInt8
  modes : List UInt8
  ids : List (List UInt8 × Int)
  bnd : List (List UInt8)
/-- Its ten slices. -/
structure Z10 where
  p1 : Option Addr
  n1 : Nat
  c1 : Nat
  p2 : Option Addr
  n2 : Nat
  c2 : Nat
  p3 : Option Addr
  n3 : Nat
  c3 : Nat
  p4 : Option Addr
  n4 : Nat
  c4 : Nat
  p5 : Option Addr
  n5 : Nat
  c5 : Nat
  p6 : Option Addr
  n6 : Nat
  c6 : Nat
  p7 : Option Addr
  n7 : Nat
  c7 : Nat
  p8 : Option Addr
  n8 : Nat
  c8 : Nat
  p9 : Option Addr
  n9 : Nat
  c9 : Nat
  p10 : Option Addr
  n10 : Nat
  c10 : Nat
def clL (z : Z10) : List Value := [.slice z.p1 z.n1 z.c1, .slice z.p2 z.n2 z.c2, .slice z.p3 z.n3 z.c3, .slice z.p4 z.n4 z.c4, .slice z.p5 z.n5 z.c5, .slice z.p6 z.n6 z.c6, .slice z.p7 z.n7 z.c7, .slice z.p8 z.n8 z.c8, .slice z.p9 z.n9 z.c9, .slice z.p10 z.n10 z.c10]
/-- The cells. -/
def clV (s : Cl) (z : Z10) : Array Value := (s.R.map B8 ++ clL z).toArray
/-- Its slices lie in blocks of S. -/
structure IsCl (w : World) (S : Nat → Prop) (s : Cl) (z : Z10) : Prop where
  len : s.R.length = 32
  s1 : s.ses.length = z.n1 ∧ Rd w S z.p1 s.ses ∧ (z.p1 = none → z.c1 = 0) ∧ z.n1 ≤ z.c1 ∧ z.c1 ≤ maxLen
  s2 : s.suites.length = z.n2 ∧ RdI w S z.p2 s.suites ∧ (z.p2 = none → z.c2 = 0) ∧ z.n2 ≤ z.c2 ∧ z.c2 ≤ maxLen
  s3 : s.vers.length = z.n3 ∧ RdI w S z.p3 s.vers ∧ (z.p3 = none → z.c3 = 0) ∧ z.n3 ≤ z.c3 ∧ z.c3 ≤ maxLen
  s4 : s.grps.length = z.n4 ∧ RdI w S z.p4 s.grps ∧ (z.p4 = none → z.c4 = 0) ∧ z.n4 ≤ z.c4 ∧ z.c4 ≤ maxLen
  s5 : s.schs.length = z.n5 ∧ RdI w S z.p5 s.schs ∧ (z.p5 = none → z.c5 = 0) ∧ z.n5 ≤ z.c5 ∧ z.c5 ≤ maxLen
  s6 : s.shs.length = z.n6 ∧ ShAt w S z.p6 s.shs ∧ (z.p6 = none → z.c6 = 0) ∧ z.n6 ≤ z.c6 ∧ z.c6 ≤ maxLen
  s7 : s.cook.length = z.n7 ∧ Rd w S z.p7 s.cook ∧ (z.p7 = none → z.c7 = 0) ∧ z.n7 ≤ z.c7 ∧ z.c7 ≤ maxLen
  s8 : s.modes.length = z.n8 ∧ Rd w S z.p8 s.modes ∧ (z.p8 = none → z.c8 = 0) ∧ z.n8 ≤ z.c8 ∧ z.c8 ≤ maxLen
  s9 : s.ids.length = z.n9 ∧ IdAt w S z.p9 s.ids ∧ (z.p9 = none → z.c9 = 0) ∧ z.n9 ≤ z.c9 ∧ z.c9 ≤ maxLen
  s10 : s.bnd.length = z.n10 ∧ BdAt w S z.p10 s.bnd ∧ (z.p10 = none → z.c10 = 0) ∧ z.n10 ≤ z.c10 ∧ z.c10 ≤ maxLen
section
variable {w w' : World} {S T X : Nat → Prop} {s : Cl} {z : Z10} {r t : Nat}
theorem IsCl.only (h : IsCl w S s z) (ho : Only X w w') (hX : ∀ k, S k → ¬ X k) : IsCl w' S s z :=
  ⟨h.len, ⟨h.s1.1, h.s1.2.1.only ho hX, h.s1.2.2⟩, ⟨h.s2.1, h.s2.2.1.only ho hX, h.s2.2.2⟩, ⟨h.s3.1, h.s3.2.1.only ho hX, h.s3.2.2⟩, ⟨h.s4.1, h.s4.2.1.only ho hX, h.s4.2.2⟩, ⟨h.s5.1, h.s5.2.1.only ho hX, h.s5.2.2⟩, ⟨h.s6.1, h.s6.2.1.only ho hX, h.s6.2.2⟩, ⟨h.s7.1, h.s7.2.1.only ho hX, h.s7.2.2⟩, ⟨h.s8.1, h.s8.2.1.only ho hX, h.s8.2.2⟩, ⟨h.s9.1, h.s9.2.1.only ho hX, h.s9.2.2⟩, ⟨h.s10.1, h.s10.2.1.only ho hX, h.s10.2.2⟩⟩
theorem IsCl.mono (h : IsCl w S s z) (hT : ∀ k, k < w.heap.size → S k → T k) : IsCl w T s z :=
  ⟨h.len, ⟨h.s1.1, h.s1.2.1.mono hT, h.s1.2.2⟩, ⟨h.s2.1, h.s2.2.1.mono hT, h.s2.2.2⟩, ⟨h.s3.1, h.s3.2.1.mono hT, h.s3.2.2⟩, ⟨h.s4.1, h.s4.2.1.mono hT, h.s4.2.2⟩, ⟨h.s5.1, h.s5.2.1.mono hT, h.s5.2.2⟩, ⟨h.s6.1, h.s6.2.1.mono hT, h.s6.2.2⟩, ⟨h.s7.1, h.s7.2.1.mono hT, h.s7.2.2⟩, ⟨h.s8.1, h.s8.2.1.mono hT, h.s8.2.2⟩, ⟨h.s9.1, h.s9.2.1.mono hT, h.s9.2.2⟩, ⟨h.s10.1, h.s10.2.1.mono hT, h.s10.2.2⟩⟩
theorem IsCl.below (h : IsCl w S s z) (hb : Below w.heap.size w w') : IsCl w' S s z := h.only (Only.of_below (r := fun _ => False) hb) (fun _ _ h => h)
theorem clV_size (s : Cl) (z : Z10) (h : s.R.length = 32) : (clV s z).size = 42 := by simp [clV, clL, h]
theorem clV_get (s : Cl) (z : Z10) (h : s.R.length = 32) (k : Nat) : (clV s z)[32 + k]? = (clL z)[k]? := by
  unfold clV
  rw [List.getElem?_toArray, List.getElem?_append_right (by simp [h])]
  simp [h]
theorem clV_rnd (s : Cl) (z : Z10) (h : s.R.length = 32) (k : Nat) (hk : k < 32) : (clV s z)[k]? = some (B8 (s.R[k]'(by rw [h]; exact hk))) := by
  unfold clV
  rw [List.getElem?_toArray, List.getElem?_append_left (by simp [h]; exact hk)]
  simp [h, hk]
theorem Blk.d32 (h : Blk w r t (clV s z)) (hl : s.R.length = 32) : w.cell? ⟨r, 32, none⟩ = some (.slice z.p1 z.n1 z.c1) := (h.c 32).trans (clV_get s z hl 0)
theorem Blk.d33 (h : Blk w r t (clV s z)) (hl : s.R.length = 32) : w.cell? ⟨r, 33, none⟩ = some (.slice z.p2 z.n2 z.c2) := (h.c 33).trans (clV_get s z hl 1)
theorem Blk.d34 (h : Blk w r t (clV s z)) (hl : s.R.length = 32) : w.cell? ⟨r, 34, none⟩ = some (.slice z.p3 z.n3 z.c3) := (h.c 34).trans (clV_get s z hl 2)
theorem Blk.d35 (h : Blk w r t (clV s z)) (hl : s.R.length = 32) : w.cell? ⟨r, 35, none⟩ = some (.slice z.p4 z.n4 z.c4) := (h.c 35).trans (clV_get s z hl 3)
theorem Blk.d36 (h : Blk w r t (clV s z)) (hl : s.R.length = 32) : w.cell? ⟨r, 36, none⟩ = some (.slice z.p5 z.n5 z.c5) := (h.c 36).trans (clV_get s z hl 4)
theorem Blk.d37 (h : Blk w r t (clV s z)) (hl : s.R.length = 32) : w.cell? ⟨r, 37, none⟩ = some (.slice z.p6 z.n6 z.c6) := (h.c 37).trans (clV_get s z hl 5)
theorem Blk.d38 (h : Blk w r t (clV s z)) (hl : s.R.length = 32) : w.cell? ⟨r, 38, none⟩ = some (.slice z.p7 z.n7 z.c7) := (h.c 38).trans (clV_get s z hl 6)
theorem Blk.d39 (h : Blk w r t (clV s z)) (hl : s.R.length = 32) : w.cell? ⟨r, 39, none⟩ = some (.slice z.p8 z.n8 z.c8) := (h.c 39).trans (clV_get s z hl 7)
theorem Blk.d40 (h : Blk w r t (clV s z)) (hl : s.R.length = 32) : w.cell? ⟨r, 40, none⟩ = some (.slice z.p9 z.n9 z.c9) := (h.c 40).trans (clV_get s z hl 8)
theorem Blk.d41 (h : Blk w r t (clV s z)) (hl : s.R.length = 32) : w.cell? ⟨r, 41, none⟩ = some (.slice z.p10 z.n10 z.c10) := (h.c 41).trans (clV_get s z hl 9)
theorem Blk.crnd (h : Blk w r t (clV s z)) (hl : s.R.length = 32) : w.rangeAt r 0 (s.R.map B8) := by
  intro j v hv
  simp only [List.getElem?_map, Option.map_eq_some_iff] at hv
  obtain ⟨x, hx, rfl⟩ := hv
  obtain ⟨hj, rfl⟩ := List.getElem?_eq_some_iff.1 hx
  rw [h.c, Nat.zero_add]
  exact clV_rnd s z hl j (by rw [← hl]; exact hj)
end
theorem clV_ones (s : Cl) (z : Z10) : (clV s z).all (·.oneCell') = true := by
  refine all_oneCell_toArray (fun v hv => ?_)
  rw [List.mem_append] at hv
  rcases hv with hv | hv
  · simp only [List.mem_map] at hv
    obtain ⟨b, _, rfl⟩ := hv
    rfl
  · simp only [clL, List.mem_cons, List.not_mem_nil, or_false] at hv
    rcases hv with h | h | h | h | h | h | h | h | h | h <;> subst h <;> rfl
theorem Try.infoCl : (Try.prog.info? 56).map (·.size) = some 42 := by kernel_rfl
theorem Try.infoRc : (Try.prog.info? 48).map (·.size) = some 42 := by kernel_rfl
end Go.Proofs.Ytegmimnhkohaoaa
/-
  Shares and ids in a row of the call's own, as cells. No condition but those that each theorem states.
-/
namespace Go.Proofs.Ytegmimnhkohaoaa
open Go.RowKit Go.Kx
set_option linter.unusedVariables false
set_option linter.unusedSimpArgs false

/-- Shares as cells, two each. -/
def ShL (w : World) (S : Nat → Prop) (L : List Value) (l : List (Int × List UInt8)) : Prop := L.length = l.length * 2 ∧ ∀ i (h : i < l.length), ∃ q m c, L[i * 2]? = some (.int .i64 l[i].1) ∧ L[i * 2 + 1]? = some (.slice q m c) ∧ l[i].2.length = m ∧ Rd w S q l[i].2 ∧ (q = none → c = 0)
theorem ShL.nil (w : World) (S : Nat → Prop) : ShL w S [] [] := ⟨rfl, fun i h => by simp at h⟩
theorem ShL.only {w w' : World} {S X : Nat → Prop} {L : List Value} {l : List (Int × List UInt8)} (h : ShL w S L l) (ho : Only X w w') (hX : ∀ k, S k → ¬ X k) : ShL w' S L l := by
  refine ⟨h.1, fun i hi => ?_⟩
  obtain ⟨q, m, c, h1, h2, h3, h4, h5⟩ := h.2 i hi
  exact ⟨q, m, c, h1, h2, h3, h4.only ho hX, h5⟩
theorem ShL.push {w : World} {S : Nat → Prop} {L : List Value} {l : List (Int × List UInt8)} (h : ShL w S L l) (a : Int × List UInt8) (q : Option Addr) (m c : Nat) (hm : a.2.length = m) (hr : Rd w S q a.2) (hn : q = none → c = 0) : ShL w S (L ++ [.int .i64 a.1, .slice q m c]) (l ++ [a]) := by
  have h0 := h.1
  refine ⟨by simp only [List.length_append, List.length_cons, List.length_nil]; omega, fun i hi => ?_⟩
  simp only [List.length_append, List.length_cons, List.length_nil] at hi
  by_cases hlt : i < l.length
  · obtain ⟨q', m', c', h1, h2, h3, h4, h5⟩ := h.2 i hlt
    rw [List.getElem_append_left hlt]
    exact ⟨q', m', c', by rw [List.getElem?_append_left (by omega)]; exact h1, by rw [List.getElem?_append_left (by omega)]; exact h2, h3, h4, h5⟩
  · obtain rfl : i = l.length := by omega
    have e : (l ++ [a])[l.length] = a := by simp
    rw [e]
    exact ⟨q, m, c, by rw [List.getElem?_append_right (by omega), h0, Nat.sub_self]; rfl, by rw [List.getElem?_append_right (by omega), h0, Nat.add_sub_cancel_left]; rfl, hm, hr, hn⟩
theorem ShL.at {w : World} {S : Nat → Prop} {L : List Value} {l : List (Int × List UInt8)} {e : TypeId} {g : Nat} {v : Value} (h : ShL w S L l) (hR : Row w e 2 g v l.length L) : ∃ p c, v = .slice p l.length c ∧ ShAt w (fun k => S k ∨ k = g) p l ∧ (p = none → c = 0) ∧ l.length ≤ c ∧ c ≤ maxLen := by
  obtain ⟨hown, hgb⟩ := hR
  have hcells := fun (g' : Nat) => hown.cells (g := g')
  obtain ⟨hlen, hcase⟩ := hown
  rcases hcase with ⟨rfl, hn⟩ | ⟨g0, cap, cur, rfl, hb, hg, hnc, hcm, hcs, htake⟩
  · exact ⟨none, 0, by rw [hn], fun i hi => by omega, fun _ => rfl, by omega, Nat.zero_le _⟩
  · have hg0 : g0 = g := by
      rcases hgb with h' | h'
      · cases h'
      · cases h'; rfl
    subst hg0
    refine ⟨some ⟨g0, 0, none⟩, cap, rfl, fun i hi => ?_, (fun h => by cases h), hnc, hcm⟩
    obtain ⟨q, m, c, h1, h2, h3, h4, h5⟩ := h.2 i hi
    have k1 := hcells g0 rfl _ _ h1
    have k2 := hcells g0 rfl _ _ h2
    have e1 : ((⟨g0, 0, none⟩ : Addr).add (i * 2)) = ⟨g0, 0 + i * 2, none⟩ := by simp [Addr.add]; omega
    have e2 : ((⟨g0, 0, none⟩ : Addr).add (i * 2 + 1)) = ⟨g0, 0 + i * 2 + 1, none⟩ := by simp [Addr.add]
    rw [e1] at k1
    rw [e2] at k2
    exact ⟨g0, 0, q, m, c, rfl, .inr rfl, k1, k2, h3, h4.mono (fun k _ hk => .inl hk), h5⟩
/-- Ids as cells, two each. -/
def IdL (w : World) (S : Nat → Prop) (L : List Value) (l : List (List UInt8 × Int)) : Prop := L.length = l.length * 2 ∧ ∀ i (h : i < l.length), ∃ q m c, L[i * 2]? = some (.slice q m c) ∧ L[i * 2 + 1]? = some (.int .i64 l[i].2) ∧ l[i].1.length = m ∧ Rd w S q l[i].1 ∧ (q = none → c = 0)
theorem IdL.nil (w : World) (S : Nat → Prop) : IdL w S [] [] := ⟨rfl, fun i h => by simp at h⟩
theorem IdL.only {w w' : World} {S X : Nat → Prop} {L : List Value} {l : List (List UInt8 × Int)} (h : IdL w S L l) (ho : Only X w w') (hX : ∀ k, S k → ¬ X k) : IdL w' S L l := by
  refine ⟨h.1, fun i hi => ?_⟩
  obtain ⟨q, m, c, h1, h2, h3, h4, h5⟩ := h.2 i hi
  exact ⟨q, m, c, h1, h2, h3, h4.only ho hX, h5⟩
theorem IdL.push {w : World} {S : Nat → Prop} {L : List Value} {l : List (List UInt8 × Int)} (h : IdL w S L l) (a : List UInt8 × Int) (q : Option Addr) (m c : Nat) (hm : a.1.length = m) (hr : Rd w S q a.1) (hn : q = none → c = 0) : IdL w S (L ++ [.slice q m c, .int .i64 a.2]) (l ++ [a]) := by
  have h0 := h.1
  refine ⟨by simp only [List.length_append, List.length_cons, List.length_nil]; omega, fun i hi => ?_⟩
  simp only [List.length_append, List.length_cons, List.length_nil] at hi
  by_cases hlt : i < l.length
  · obtain ⟨q', m', c', h1, h2, h3, h4, h5⟩ := h.2 i hlt
    rw [List.getElem_append_left hlt]
    exact ⟨q', m', c', by rw [List.getElem?_append_left (by omega)]; exact h1, by rw [List.getElem?_append_left (by omega)]; exact h2, h3, h4, h5⟩
  · obtain rfl : i = l.length := by omega
    have e : (l ++ [a])[l.length] = a := by simp
    rw [e]
    exact ⟨q, m, c, by rw [List.getElem?_append_right (by omega), h0, Nat.sub_self]; rfl, by rw [List.getElem?_append_right (by omega), h0, Nat.add_sub_cancel_left]; rfl, hm, hr, hn⟩
theorem IdL.at {w : World} {S : Nat → Prop} {L : List Value} {l : List (List UInt8 × Int)} {e : TypeId} {g : Nat} {v : Value} (h : IdL w S L l) (hR : Row w e 2 g v l.length L) : ∃ p c, v = .slice p l.length c ∧ IdAt w (fun k => S k ∨ k = g) p l ∧ (p = none → c = 0) ∧ l.length ≤ c ∧ c ≤ maxLen := by
  obtain ⟨hown, hgb⟩ := hR
  have hcells := fun (g' : Nat) => hown.cells (g := g')
  obtain ⟨hlen, hcase⟩ := hown
  rcases hcase with ⟨rfl, hn⟩ | ⟨g0, cap, cur, rfl, hb, hg, hnc, hcm, hcs, htake⟩
  · exact ⟨none, 0, by rw [hn], fun i hi => by omega, fun _ => rfl, by omega, Nat.zero_le _⟩
  · have hg0 : g0 = g := by
      rcases hgb with h' | h'
      · cases h'
      · cases h'; rfl
    subst hg0
    refine ⟨some ⟨g0, 0, none⟩, cap, rfl, fun i hi => ?_, (fun h => by cases h), hnc, hcm⟩
    obtain ⟨q, m, c, h1, h2, h3, h4, h5⟩ := h.2 i hi
    have k1 := hcells g0 rfl _ _ h1
    have k2 := hcells g0 rfl _ _ h2
    have e1 : ((⟨g0, 0, none⟩ : Addr).add (i * 2)) = ⟨g0, 0 + i * 2, none⟩ := by simp [Addr.add]; omega
    have e2 : ((⟨g0, 0, none⟩ : Addr).add (i * 2 + 1)) = ⟨g0, 0 + i * 2 + 1, none⟩ := by simp [Addr.add]
    rw [e1] at k1
    rw [e2] at k2
    exact ⟨g0, 0, q, m, c, rfl, .inr rfl, k1, k2, h3, h4.mono (fun k _ hk => .inl hk), h5⟩
end Go.Proofs.Ytegmimnhkohaoaa
/-
  Lists that are read one after another into a variable of the call's own: plain laws. No condition but those that each theorem states.
-/
namespace Go.Proofs.Ytegmimnhkohaoaa
open Go.RowKit Go.Kx
set_option linter.unusedVariables false
set_option linter.unusedSimpArgs false

/-- One after another, as long as something is left and nothing is wrong. -/
def loopL {α : Type} (F : List UInt8 → α × List UInt8 × Int) : Nat → List UInt8 → Int → List α × List UInt8 × Int
  | 0, s, bad => ([], s, bad)
  | n + 1, s, bad => if s = [] ∨ bad ≠ 0 then ([], s, bad) else ((F s).1 :: (loopL F n (F s).2.1 (F s).2.2).1, (loopL F n (F s).2.1 (F s).2.2).2)
section
variable {α : Type} (F : List UInt8 → α × List UInt8 × Int)
theorem loopL_stop (n : Nat) (s : List UInt8) (bad : Int) (h : s = [] ∨ bad ≠ 0) : loopL F n s bad = ([], s, bad) := by
  cases n with
  | zero => rfl
  | succ n => unfold loopL; rw [if_pos h]
theorem loopL_go (n : Nat) (s : List UInt8) (h : s ≠ []) : loopL F (n + 1) s 0 = ((F s).1 :: (loopL F n (F s).2.1 (F s).2.2).1, (loopL F n (F s).2.1 (F s).2.2).2) := by
  conv => lhs; unfold loopL
  rw [if_neg (by simp [h])]
/-- What was read, and what will be. -/
def joinL (A : List α) (z : List α × List UInt8 × Int) : List α × List UInt8 × Int := (A ++ z.1, z.2)
theorem joinL_nil (z : List α × List UInt8 × Int) : joinL [] z = z := rfl
theorem joinL_go (A : List α) (n : Nat) (s : List UInt8) (h : s ≠ []) : joinL A (loopL F (n + 1) s 0) = joinL (A ++ [(F s).1]) (loopL F n (F s).2.1 (F s).2.2) := by
  rw [loopL_go F n s h]
  unfold joinL
  simp
theorem joinL_stop (A : List α) (n : Nat) (s : List UInt8) (bad : Int) (h : s = [] ∨ bad ≠ 0) : joinL A (loopL F n s bad) = (A, s, bad) := by
  rw [loopL_stop F n s bad h]
  unfold joinL
  simp
end
theorem loopL_len {α : Type} (F : List UInt8 → α × List UInt8 × Int) (hF : ∀ s, s ≠ [] → (F s).2.1.length + 1 ≤ s.length ∨ (F s).2.2 ≠ 0) (hF2 : ∀ s, (F s).2.1.length ≤ s.length) : ∀ (n : Nat) (s : List UInt8) (bad : Int), (loopL F n s bad).1.length ≤ s.length + 1
  | 0, s, bad => by simp [loopL]
  | n + 1, s, bad => by
    by_cases h : s = [] ∨ bad ≠ 0
    · rw [loopL_stop F _ s bad h]; simp
    · have hs : s ≠ [] := fun e => h (.inl e)
      have hb : bad = 0 := Classical.byContradiction fun e => h (.inr e)
      subst hb
      rw [loopL_go F n s hs]
      have ih := loopL_len F hF hF2 n (F s).2.1 (F s).2.2
      rcases hF s hs with h1 | h1
      · simp only [List.length_cons]; omega
      · rw [loopL_stop F n _ _ (.inr h1)] at ih ⊢
        simp

/-! ### Rows of elements -/
def NuL (w : World) (S : Nat → Prop) (L : List Value) (l : List Int) : Prop := L = l.map I64
/-- Slices of bytes as cells, one each. -/
def BdL (w : World) (S : Nat → Prop) (L : List Value) (l : List (List UInt8)) : Prop := L.length = l.length ∧ ∀ i (h : i < l.length), ∃ q m c, L[i]? = some (.slice q m c) ∧ l[i].length = m ∧ Rd w S q l[i] ∧ (q = none → c = 0)
theorem BdL.push {w : World} {S : Nat → Prop} {L : List Value} {l : List (List UInt8)} (h : BdL w S L l) (a : List UInt8) (q : Option Addr) (m c : Nat) (hm : a.length = m) (hr : Rd w S q a) (hn : q = none → c = 0) : BdL w S (L ++ [.slice q m c]) (l ++ [a]) := by
  have h0 := h.1
  refine ⟨by simp only [List.length_append, List.length_cons, List.length_nil]; omega, fun i hi => ?_⟩
  simp only [List.length_append, List.length_cons, List.length_nil] at hi
  by_cases hlt : i < l.length
  · obtain ⟨q', m', c', h1, h3, h4, h5⟩ := h.2 i hlt
    rw [List.getElem_append_left hlt]
    exact ⟨q', m', c', by rw [List.getElem?_append_left (by omega)]; exact h1, h3, h4, h5⟩
  · obtain rfl : i = l.length := by omega
    have e : (l ++ [a])[l.length] = a := by simp
    rw [e]
    exact ⟨q, m, c, by rw [List.getElem?_append_right (by omega), h0, Nat.sub_self]; rfl, hm, hr, hn⟩
theorem BdL.at {w : World} {S : Nat → Prop} {L : List Value} {l : List (List UInt8)} {e : TypeId} {g : Nat} {v : Value} (h : BdL w S L l) (hR : Row w e 1 g v l.length L) : ∃ p c, v = .slice p l.length c ∧ BdAt w (fun k => S k ∨ k = g) p l ∧ (p = none → c = 0) ∧ l.length ≤ c ∧ c ≤ maxLen := by
  obtain ⟨hown, hgb⟩ := hR
  have hcells := fun (g' : Nat) => hown.cells (g := g')
  obtain ⟨hlen, hcase⟩ := hown
  rcases hcase with ⟨rfl, hn⟩ | ⟨g0, cap, cur, rfl, hb, hg, hnc, hcm, hcs, htake⟩
  · exact ⟨none, 0, by rw [hn], fun i hi => by omega, fun _ => rfl, by omega, Nat.zero_le _⟩
  · have hg0 : g0 = g := by
      rcases hgb with h' | h'
      · cases h'
      · cases h'; rfl
    subst hg0
    refine ⟨some ⟨g0, 0, none⟩, cap, rfl, fun i hi => ?_, (fun h => by cases h), hnc, hcm⟩
    obtain ⟨q, m, c, h1, h3, h4, h5⟩ := h.2 i hi
    have k1 := hcells g0 rfl _ _ h1
    have e1 : ((⟨g0, 0, none⟩ : Addr).add i) = ⟨g0, 0 + i, none⟩ := by unfold Addr.add; split <;> simp_all
    rw [e1] at k1
    exact ⟨g0, 0, q, m, c, rfl, .inr rfl, k1, h3, h4.mono (fun k _ hk => .inl hk), h5⟩
theorem NuL.at {w : World} {S : Nat → Prop} {L : List Value} {l : List Int} {e : TypeId} {g : Nat} {v : Value} (h : NuL w S L l) (hR : Row w e 1 g v l.length L) : ∃ p c, v = .slice p l.length c ∧ RdI w (fun k => S k ∨ k = g) p l ∧ (p = none → c = 0) ∧ l.length ≤ c ∧ c ≤ maxLen := by
  unfold NuL at h
  subst h
  obtain ⟨hown, hgb⟩ := hR
  have hcells := fun (g' : Nat) => hown.cells (g := g')
  obtain ⟨hlen, hcase⟩ := hown
  rcases hcase with ⟨rfl, hn⟩ | ⟨g0, cap, cur, rfl, hb, hg, hnc, hcm, hcs, htake⟩
  · have : l = [] := List.length_eq_zero_iff.1 hn
    subst this
    exact ⟨none, 0, rfl, RdV.nil _ _ _, fun _ => rfl, by simp, Nat.zero_le _⟩
  · have hg0 : g0 = g := by
      rcases hgb with h' | h'
      · cases h'
      · cases h'; rfl
    subst hg0
    refine ⟨some ⟨g0, 0, none⟩, cap, rfl, fun i hi => ⟨_, rfl, .inr rfl, ?_⟩, (fun h => by cases h), hnc, hcm⟩
    exact hcells g0 rfl i _ (by rw [List.getElem?_eq_getElem hi])
theorem ShL.mono {w : World} {S T : Nat → Prop} {L : List Value} {l : List (Int × List UInt8)} (h : ShL w S L l) (hT : ∀ k, k < w.heap.size → S k → T k) : ShL w T L l :=
  ⟨h.1, fun i hi => by obtain ⟨q, m, c, h1, h2, h3, h4, h5⟩ := h.2 i hi; exact ⟨q, m, c, h1, h2, h3, h4.mono hT, h5⟩⟩
theorem IdL.mono {w : World} {S T : Nat → Prop} {L : List Value} {l : List (List UInt8 × Int)} (h : IdL w S L l) (hT : ∀ k, k < w.heap.size → S k → T k) : IdL w T L l :=
  ⟨h.1, fun i hi => by obtain ⟨q, m, c, h1, h2, h3, h4, h5⟩ := h.2 i hi; exact ⟨q, m, c, h1, h2, h3, h4.mono hT, h5⟩⟩

/-- How a row of elements is told. -/
structure RowK {α : Type} (P : World → (Nat → Prop) → List Value → List α → Prop) : Prop where
  only : ∀ {w w' : World} {S X : Nat → Prop} {L : List Value} {l : List α}, P w S L l → Only X w w' → (∀ k, S k → ¬ X k) → P w' S L l
  mono : ∀ {w : World} {S T : Nat → Prop} {L : List Value} {l : List α}, P w S L l → (∀ k, k < w.heap.size → S k → T k) → P w T L l
  nil : ∀ (w : World) (S : Nat → Prop), P w S [] []
theorem nuK : RowK NuL := ⟨fun h _ _ => h, fun h _ => h, fun _ _ => rfl⟩
theorem shK : RowK ShL := ⟨fun h ho hX => h.only ho hX, fun h hT => h.mono hT, fun w S => ShL.nil w S⟩
theorem idK : RowK IdL := ⟨fun h ho hX => h.only ho hX, fun h hT => h.mono hT, fun w S => IdL.nil w S⟩
theorem bdK : RowK BdL := ⟨fun h ho hX => ⟨h.1, fun i hi => by obtain ⟨q, m, c, h1, h3, h4, h5⟩ := h.2 i hi; exact ⟨q, m, c, h1, h3, h4.only ho hX, h5⟩⟩,
  fun h hT => ⟨h.1, fun i hi => by obtain ⟨q, m, c, h1, h3, h4, h5⟩ := h.2 i hi; exact ⟨q, m, c, h1, h3, h4.mono hT, h5⟩⟩, fun w S => ⟨rfl, fun i h => by simp at h⟩⟩

/-- The variable in block bc holds a slice of the call's own; its elements are A; all that it has lies in blocks from M on. -/
def Held {α : Type} (P : World → (Nat → Prop) → List Value → List α → Prop) (w : World) (bc t e sz M : Nat) (A : List α) : Prop :=
  ∃ p c g L, Var w bc t (.slice p A.length c) ∧ Row w e sz g (.slice p A.length c) A.length L ∧ M ≤ g ∧ P w (fun k => M ≤ k ∧ k ≠ g) L A ∧ (A.length = 0 → p = none ∧ c = 0)
section
variable {α : Type} {P : World → (Nat → Prop) → List Value → List α → Prop} {w w' wr w1 w5 : World} {bc t e sz M N ra g2 g3 : Nat} {A : List α}
theorem Held.only {q : Nat → Prop} (K : RowK P) (h : Held P w bc t e sz M A) (ho : Only q w w') (h1 : ¬ q bc) (h2 : ∀ k, M ≤ k → ¬ q k) : Held P w' bc t e sz M A := by
  obtain ⟨p, c, g, L, h3, h4, h5, h6, h7⟩ := h
  exact ⟨p, c, g, L, h3.only ho h1, h4.only ho (h2 g h5), h5, K.only h6 ho (fun k hk => h2 k hk.1), h7⟩
theorem Held.nil (K : RowK P) (h : Var w bc t (.slice none 0 0)) : Held P w bc t e sz M [] := ⟨none, 0, M, [], h, Row.nil _ _ _ _, Nat.le_refl _, K.nil _ _, fun _ => ⟨rfl, rfl⟩⟩
theorem Held.mono (K : RowK P) (h : Held P w bc t e sz N A) (hM : M ≤ N) : Held P w bc t e sz M A := by
  obtain ⟨p, c, g, L, h3, h4, h5, h6, h7⟩ := h
  exact ⟨p, c, g, L, h3, h4, by omega, K.mono h6 (fun k _ hk => ⟨by omega, hk.2⟩), h7⟩
/-- The slice ahead of a round, and what becomes of it while a Reader reads. -/
theorem Held.parts (K : RowK P) (h : Held P wr bc t e sz M A) (hbc : bc < M) (hra : ra < M) (hbr : bc ≠ ra) : ∃ p c, Var wr bc t (.slice p A.length c) ∧ ∀ w1, Only (· = ra) wr w1 → ∃ g3 L, Var w1 bc t (.slice p A.length c) ∧ Row w1 e sz g3 (.slice p A.length c) A.length L ∧ P w1 (fun k => M ≤ k ∧ k ≠ g3 ∧ k < wr.heap.size) L A ∧ M ≤ g3 ∧ (g3 < wr.heap.size ∨ g3 = w1.heap.size + M) := by
  obtain ⟨p, c, g, L, h3, h4, h5, h6, h7⟩ := h
  refine ⟨p, c, h3, fun w1 ho => ?_⟩
  have h3' := h3.only ho hbr
  by_cases h0 : A.length = 0
  · obtain ⟨rfl, rfl⟩ := h7 h0
    have hA : A = [] := List.length_eq_zero_iff.1 h0
    subst hA
    exact ⟨w1.heap.size + M, [], h3', Row.nil _ _ _ _, K.nil _ _, by omega, .inr rfl⟩
  · obtain ⟨_, _, _, hf, _⟩ := Row.form h4
    have hlt := (hf (by omega)).2
    exact ⟨g, L, h3', h4.only ho (by omega), K.only (K.mono h6 (fun k hk hh => ⟨hh.1, hh.2, hk⟩)) ho (by intro k hk e; omega), h5, .inl hlt⟩
/-- One element more. -/
theorem Held.step (K : RowK P) {L vs : List Value} {a : α} {v0 : Value} {p5 : Option Addr} {k5 : Nat} (hP : P w1 (fun k => M ≤ k ∧ k ≠ g3 ∧ k < wr.heap.size) L A) (hM3 : M ≤ g3) (hg3 : g3 < wr.heap.size ∨ g3 = w1.heap.size + M) (hz : wr.heap.size ≤ w1.heap.size) (hM1 : M ≤ wr.heap.size)
    (hV5 : Var w5 bc t v0) (hrow : Row w5 e sz g2 (.slice p5 (A.length + 1) k5) (A.length + 1) (L ++ vs)) (hg2 : g2 = g3 ∨ g2 = w1.heap.size + 1) (hO : Only (· = g3) w1 w5) (hbc : bc < M)
    (hpush : ∀ (S : Nat → Prop) w', (∀ k, wr.heap.size ≤ k → k < w1.heap.size → S k) → Only (fun k => k = g3 ∨ k = bc) w1 w' → P w' S L A → P w' S (L ++ vs) (A ++ [a])) :
    Held P (w5.setCell ⟨bc, 0, none⟩ (.slice p5 (A.length + 1) k5)) bc t e sz M (A ++ [a]) := by
  have hO6 : Only (fun k => k = bc) w5 (w5.setCell ⟨bc, 0, none⟩ (.slice p5 (A.length + 1) k5)) := (Only.refl _ _).setCell _ _ (.inl rfl)
  have hO16 : Only (fun k => k = g3 ∨ k = bc) w1 (w5.setCell ⟨bc, 0, none⟩ (.slice p5 (A.length + 1) k5)) := (hO.mono (fun _ _ h => .inl h)).then (hO6.mono (fun _ _ h => .inr h))
  have hx5 : Var (w5.setCell ⟨bc, 0, none⟩ (.slice p5 (A.length + 1) k5)) bc t (.slice p5 (A.length + 1) k5) := by
    unfold Var at *
    simp [World.setCell, Array.getElem?_modify, hV5]
  have hlen : (A ++ [a]).length = A.length + 1 := by simp
  refine ⟨p5, k5, g2, L ++ vs, by rw [hlen]; exact hx5, by rw [hlen]; exact hrow.only hO6 (by omega), by omega, ?_, by intro h; omega⟩
  refine hpush _ _ (fun k h1 h2 => ⟨by omega, by omega⟩) hO16 ?_
  exact K.mono (K.only hP hO16 (by intro k hk e; omega)) (fun k _ hk => ⟨hk.1, fun e => by have h2 := hk.2.1; have h3 := hk.2.2; omega⟩)
end
/-- What the loop keeps. -/
structure NB {α : Type} (P : World → (Nat → Prop) → List Value → List α → Prop) (w0 : World) (ra ga bc t e sz M : Nat) (A : List α) (s : List UInt8) (bad : Int) (wx : World) : Prop where
  held : Held P wx bc t e sz M A
  cur : Cur wx ra ga s bad
  ho : Only (fun k => k = ra ∨ k = bc) w0 wx
theorem only_loop {w wr w1 w5 : World} {ra bc g3 : Nat} {v : Value} (h1 : Only (fun k => k = ra ∨ k = bc) w wr) (h2 : Only (· = ra) wr w1) (h3 : Only (· = g3) w1 w5) (hg : w.heap.size ≤ g3) : Only (fun k => k = ra ∨ k = bc) w (w5.setCell ⟨bc, 0, none⟩ v) :=
  ((h1.then (h2.mono (fun _ _ h => .inl h))).trans h3 (fun _ h => h) (fun k hk h => by omega)).setCell _ _ (.inl (.inr rfl))

theorem own_nilc {w : World} {g n c : Nat} {p : Option Addr} {l : List UInt8} (h : Own w g (.slice p n c) l) : p = none → c = 0 := by
  obtain ⟨p', c', he, _, _, _, hp, _⟩ := h.form
  cases he
  exact hp
theorem own_lt {w : World} {g n c : Nat} {p : Option Addr} {l : List UInt8} (h : Own w g (.slice p n c) l) : g < w.heap.size ∨ l.length = 0 := by
  obtain ⟨p', c', he, hl, hc, hr, hp, ha⟩ := h.form
  cases he
  cases p with
  | none => rw [hr.none_nil]; exact .inr rfl
  | some a => exact .inl (ha a rfl).2
theorem rd_new {w1 w' : World} {S : Nat → Prop} {kg n c Z g3 bc : Nat} {p : Option Addr} {l : List UInt8} (h : Own w1 kg (.slice p n c) l) (hz : Z ≤ kg) (hkl : kg < w1.heap.size ∨ l.length = 0) (hS : ∀ k, Z ≤ k → k < w1.heap.size → S k) (ho : Only (fun k => k = g3 ∨ k = bc) w1 w') (h1 : kg < w1.heap.size → kg ≠ g3) (h2 : bc < Z) : Rd w' S p l := by
  by_cases hl : kg < w1.heap.size
  · exact (h.rd.only ho (fun k e => by have := h1 hl; omega)).mono (fun k _ e => hS k (by omega) (by omega))
  · have : l = [] := List.length_eq_zero_iff.1 (by rcases hkl with h | h; exact absurd h hl; exact h)
    subst this
    exact Rd.nil _ _ _
theorem cell_two (w : World) (x y : Value) (t : TypeId) : ∀ j u, [x, y][j]? = some u → (w.alloc (.cells #[x, y] t)).cell? ((⟨w.heap.size, 0, none⟩ : Addr).add j) = some u := by
  intro j u hu
  rcases j with _ | _ | j
  · simp at hu; subst hu; simp [Addr.add, World.cell?_alloc_at]
  · simp at hu; subst hu; simp [Addr.add, World.cell?_alloc_at]
  · simp at hu
/-- A number of two bytes. -/
def uF (s : List UInt8) : Int × List UInt8 × Int := rU s 0 2
theorem rU_less (s : List UInt8) (W : Int) (hW : 1 ≤ W) (hs : s ≠ []) : (rU s 0 W).2.1.length + 1 ≤ s.length ∨ (rU s 0 W).2.2 ≠ 0 := by
  by_cases h : (rU s 0 W).2.2 = 0
  · left
    unfold rU at h ⊢
    simp only at h ⊢
    have h0 : s.length ≠ 0 := by simpa using hs
    unfold leftS
    rw [if_pos h, List.length_drop]
    omega
  · exact .inr h
theorem uF_less (s : List UInt8) (hs : s ≠ []) : (uF s).2.1.length + 1 ≤ s.length ∨ (uF s).2.2 ≠ 0 := rU_less s 2 (by decide) hs
theorem uF_left (s : List UInt8) : (uF s).2.1.length ≤ s.length := rU_left s 0 2
/-- A wrong number makes the bytes behind it wrong. -/
theorem vecS_bad (s : List UInt8) (bad W l m : Int) (h : bad ≠ 0) : (vecS s bad W l m).2.2 ≠ 0 := by
  unfold vecS
  simp only
  have h1 : (rU s bad W).2.2 ≠ 0 := badS_ne (by unfold wb rm; split <;> simp_all)
  have hb := badS_ne (s := (rU s bad W).2.1) (n := (rU s bad W).1) h1
  split
  · show (3 : Int) ≠ 0
    decide
  · exact hb
theorem rU_bad (s : List UInt8) (bad W : Int) (h : bad ≠ 0) : (rU s bad W).2.2 ≠ 0 := badS_ne (by unfold wb rm; split <;> simp_all)
theorem vecS_less (s : List UInt8) (W l m : Int) (hW : 1 ≤ W) (hs : s ≠ []) : (vecS s 0 W l m).2.1.length + 1 ≤ s.length ∨ (vecS s 0 W l m).2.2 ≠ 0 := by
  rcases rU_less s W hW hs with h | h
  · left
    have h1 := vecS_left s 0 W l m
    have h2 : (vecS s 0 W l m).2.1.length ≤ (rU s 0 W).2.1.length := by
      unfold vecS
      simp only
      split <;> exact leftS_le _ _ _
    omega
  · right
    unfold vecS
    simp only
    have hb := badS_ne (s := (rU s 0 W).2.1) (n := (rU s 0 W).1) h
    split
    · show (3 : Int) ≠ 0
      decide
    · exact hb
/-- A share; a ticket and its age; a binder. -/
def kF (s : List UInt8) : (Int × List UInt8) × List UInt8 × Int := (((rU s 0 2).1, (vecS (rU s 0 2).2.1 (rU s 0 2).2.2 2 1 64).1), (vecS (rU s 0 2).2.1 (rU s 0 2).2.2 2 1 64).2)
def iF (s : List UInt8) : (List UInt8 × Int) × List UInt8 × Int := (((vecS s 0 2 1 255).1, (rU (vecS s 0 2 1 255).2.1 (vecS s 0 2 1 255).2.2 4).1), (rU (vecS s 0 2 1 255).2.1 (vecS s 0 2 1 255).2.2 4).2)
def bF (s : List UInt8) : List UInt8 × List UInt8 × Int := vecS s 0 1 32 32
theorem kF_left (s : List UInt8) : (kF s).2.1.length ≤ s.length := Nat.le_trans (vecS_left _ _ _ _ _) (rU_left _ _ _)
theorem iF_left (s : List UInt8) : (iF s).2.1.length ≤ s.length := Nat.le_trans (rU_left _ _ _) (vecS_left _ _ _ _ _)
theorem bF_left (s : List UInt8) : (bF s).2.1.length ≤ s.length := vecS_left _ _ _ _ _
theorem kF_less (s : List UInt8) (hs : s ≠ []) : (kF s).2.1.length + 1 ≤ s.length ∨ (kF s).2.2 ≠ 0 := by
  rcases rU_less s 2 (by decide) hs with h | h
  · have := vecS_left (rU s 0 2).2.1 (rU s 0 2).2.2 2 1 64
    exact .inl (by show (vecS _ _ _ _ _).2.1.length + 1 ≤ _; omega)
  · exact .inr (vecS_bad _ _ _ _ _ h)
theorem iF_less (s : List UInt8) (hs : s ≠ []) : (iF s).2.1.length + 1 ≤ s.length ∨ (iF s).2.2 ≠ 0 := by
  rcases vecS_less s 2 1 255 (by decide) hs with h | h
  · have := rU_left (vecS s 0 2 1 255).2.1 (vecS s 0 2 1 255).2.2 4
    exact .inl (by show (rU _ _ _).2.1.length + 1 ≤ _; omega)
  · exact .inr (rU_bad _ _ _ h)
theorem bF_less (s : List UInt8) (hs : s ≠ []) : (bF s).2.1.length + 1 ≤ s.length ∨ (bF s).2.2 ≠ 0 := vecS_less s 1 32 32 (by decide) hs
end Go.Proofs.Ytegmimnhkohaoaa
