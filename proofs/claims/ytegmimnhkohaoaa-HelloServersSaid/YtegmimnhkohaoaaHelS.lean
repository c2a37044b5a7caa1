/-
  A Server (of hello or of the document) by value and in a block; arrays of 32 bytes compared; what the greeting's closures put. No condition but those that each theorem states.
-/
import Derived.Test.YtegmimnhkohaoaaHelX
import Derived.Test.YtegmimnhkohaoaaHelA
import Derived.Deep.MidRow
import Derived.Stop.BytesEq
import Derived.WalkKit
import Derived.ProofKit
namespace Go.Kx
open Go.RowKit
theorem wpList_load_any {P : Program} {ops : Array Oper} {rest : List Oper} {op : Oper} {a : Act} {w : World} {Q : Exit → Act → World → Prop} (hw : Region.wanted op (yielded ops a.tmps) = true) (ty : TypeId) (x : Operand) (ho : op.op = .load ty x)
    (b o : Nat) (hx : a.eval x = .pointer (some ⟨b, o, none⟩)) (cs : List Value) (d : TypeDesc) (hc : w.rangeAt b o cs) (hu : P.underlying ty = some d) (hd : d.isRow = true) (hi : (P.info? ty).map (·.size) = some cs.length)
    (h : wpList P ops Q rest (a.put op.dst (.agg cs.toArray)) w) : wpList P ops Q (op :: rest) a w :=
  wpList_step fun _ hK => by rw [if_pos hw]; exact wp_load_mid ty x ho b o hx cs d hc hu hd hi (hK _ _ h)
theorem step_load_mid {P : Program} {ops : Array Oper} {w : World} {o : Oper} {a : Act} {K : Act → World → Prop} {Q : Exit → Act → World → Prop} {E : Prop} (hgd : o.guard = none) (ty : TypeId) (x : Operand) (ho : o.op = .load ty x)
    (b k : Nat) (hx : a.eval x = .pointer (some ⟨b, k, none⟩)) (cs : List Value) (d : TypeDesc) (hc : w.rangeAt b k cs) (hu : P.underlying ty = some d) (hd : d.isRow = true) (hi : (P.info? ty).map (·.size) = some cs.length)
    (h : K (a.put o.dst (.agg cs.toArray)) w) : if Region.wanted o (yielded ops a.tmps) = true then Oper.wp P o a w K Q else E := by
  rw [if_pos (by simp [Region.wanted, hgd])]
  exact wp_load_mid ty x ho b k hx cs d hc hu hd hi h
end Go.Kx
namespace Go.Proofs.Ytegmimnhkohaoaa
open Go.RowKit Go.Kx
set_option linter.unusedVariables false
set_option linter.unusedSimpArgs false

/-- What a Server tells. -/
structure Sv where
  R : List UInt8
  ses : List UInt8
  suite : Int
  ver : Int
  grp : Int
  key : List UInt8
  retry : Bool
  cook : List UInt8
  psk : Int
def svC (s : Sv) (a b c : Value) : Array Value := (s.R.map B8 ++ [a, .int .i64 s.suite, .int .i64 s.ver, .int .i64 s.grp, b, .bool s.retry, c, .int .i64 s.psk]).toArray
/-- A slice of bytes below M. -/
def Sl (w : World) (M : Nat) (p : Option Addr) (n c : Nat) (l : List UInt8) : Prop := l.length = n ∧ Rd w (· < M) p l ∧ (p = none → c = 0)
theorem Sl.below {w w' : World} {M : Nat} {p : Option Addr} {n c : Nat} {l : List UInt8} (h : Sl w M p n c l) (hb : Below w.heap.size w w') : Sl w' M p n c l := ⟨h.1, h.2.1.below hb, h.2.2⟩
theorem Sl.only {w w' : World} {M : Nat} {q : Nat → Prop} {p : Option Addr} {n c : Nat} {l : List UInt8} (h : Sl w M p n c l) (ho : Only q w w') (hq : ∀ k, k < M → ¬ q k) : Sl w' M p n c l := ⟨h.1, h.2.1.only ho hq, h.2.2⟩
theorem Sl.mono {w : World} {M N : Nat} {p : Option Addr} {n c : Nat} {l : List UInt8} (h : Sl w M p n c l) (hb : M ≤ N) : Sl w N p n c l := ⟨h.1, h.2.1.mono (fun k _ hk => by omega), h.2.2⟩

/-- Its three slices as a bundle. -/
structure S3 where
  p1 : Option Addr
  n1 : Nat
  c1 : Nat
  p2 : Option Addr
  n2 : Nat
  c2 : Nat
  p3 : Option Addr
  n3 : Nat
  c3 : Nat
/-- The cells. -/
def svV (s : Sv) (z : S3) : Array Value := svC s (.slice z.p1 z.n1 z.c1) (.slice z.p2 z.n2 z.c2) (.slice z.p3 z.n3 z.c3)
structure IsSv (w : World) (M : Nat) (s : Sv) (z : S3) : Prop where
  len : s.R.length = 32
  s1 : Sl w M z.p1 z.n1 z.c1 s.ses
  s2 : Sl w M z.p2 z.n2 z.c2 s.key
  s3 : Sl w M z.p3 z.n3 z.c3 s.cook
theorem IsSv.below {w w' : World} {M : Nat} {s : Sv} {z : S3} (h : IsSv w M s z) (hb : Below w.heap.size w w') : IsSv w' M s z := ⟨h.len, h.s1.below hb, h.s2.below hb, h.s3.below hb⟩
theorem IsSv.only {w w' : World} {M : Nat} {q : Nat → Prop} {s : Sv} {z : S3} (h : IsSv w M s z) (hb : Only q w w') (hq : ∀ k, k < M → ¬ q k) : IsSv w' M s z := ⟨h.len, h.s1.only hb hq, h.s2.only hb hq, h.s3.only hb hq⟩
theorem svV_size {w : World} {M : Nat} {s : Sv} {z : S3} (h : IsSv w M s z) : (svV s z).size = 40 := by simp [svV, svC, h.len]
theorem svV_get {w : World} {M : Nat} {s : Sv} {z : S3} (h : IsSv w M s z) (k : Nat) : (svV s z)[32 + k]? = [.slice z.p1 z.n1 z.c1, .int .i64 s.suite, .int .i64 s.ver, .int .i64 s.grp, .slice z.p2 z.n2 z.c2, .bool s.retry, .slice z.p3 z.n3 z.c3, .int .i64 s.psk][k]? := by
  unfold svV svC
  rw [List.getElem?_toArray, List.getElem?_append_right (by simp [h.len])]
  simp [h.len]
theorem svV_rnd {w : World} {M : Nat} {s : Sv} {z : S3} (h : IsSv w M s z) (k : Nat) (hk : k < 32) : (svV s z)[k]? = some (B8 (s.R[k]'(by rw [h.len]; exact hk))) := by
  unfold svV svC
  rw [List.getElem?_toArray, List.getElem?_append_left (by simp [h.len]; exact hk)]
  simp [h.len, hk]

/-- A block that is a Server. -/
def Blk (w : World) (r t : Nat) (C : Array Value) : Prop := w.heap[r]? = some (.cells C t (0, 0))
theorem Blk.lt {w : World} {r t : Nat} {C : Array Value} (h : Blk w r t C) : r < w.heap.size := (Array.getElem?_eq_some_iff.1 h).1
theorem Blk.below {w w' : World} {r t : Nat} {C : Array Value} (h : Blk w r t C) (hb : Below w.heap.size w w') : Blk w' r t C := (hb.block r h.lt).trans h
theorem Blk.only {w w' : World} {q : Nat → Prop} {r t : Nat} {C : Array Value} (h : Blk w r t C) (hb : Only q w w') (hq : ¬ q r) : Blk w' r t C := (hb.block r h.lt hq).trans h
theorem Blk.new (w : World) (t : Nat) (C : Array Value) : Blk (w.alloc (.cells C t)) w.heap.size t C := heap_alloc_new w _
theorem Blk.c {w : World} {r t : Nat} {C : Array Value} (h : Blk w r t C) (o : Nat) : w.cell? ⟨r, o, none⟩ = C[o]? := by unfold Blk at h; simp [World.cell?, h]
theorem Blk.fr {w : World} {r t : Nat} {C : Array Value} (h : Blk w r t C) (o : Nat) : w.frozen? ⟨r, o, none⟩ = false := by unfold Blk at h; simp [World.frozen?, h]
theorem Blk.range {w : World} {r t : Nat} {C : Array Value} (h : Blk w r t C) : w.rangeAt r 0 C.toList := by
  intro j v hv
  rw [h.c, Nat.zero_add]
  simpa using hv
section
variable {w w' : World} {M r t : Nat} {s : Sv} {z : S3}
theorem Blk.c32 (h : Blk w r t (svV s z)) (i : IsSv w' M s z) : w.cell? ⟨r, 32, none⟩ = some (.slice z.p1 z.n1 z.c1) := (h.c 32).trans (svV_get i 0)
theorem Blk.c33 (h : Blk w r t (svV s z)) (i : IsSv w' M s z) : w.cell? ⟨r, 33, none⟩ = some (.int .i64 s.suite) := (h.c 33).trans (svV_get i 1)
theorem Blk.c34 (h : Blk w r t (svV s z)) (i : IsSv w' M s z) : w.cell? ⟨r, 34, none⟩ = some (.int .i64 s.ver) := (h.c 34).trans (svV_get i 2)
theorem Blk.c35 (h : Blk w r t (svV s z)) (i : IsSv w' M s z) : w.cell? ⟨r, 35, none⟩ = some (.int .i64 s.grp) := (h.c 35).trans (svV_get i 3)
theorem Blk.c36 (h : Blk w r t (svV s z)) (i : IsSv w' M s z) : w.cell? ⟨r, 36, none⟩ = some (.slice z.p2 z.n2 z.c2) := (h.c 36).trans (svV_get i 4)
theorem Blk.c37 (h : Blk w r t (svV s z)) (i : IsSv w' M s z) : w.cell? ⟨r, 37, none⟩ = some (.bool s.retry) := (h.c 37).trans (svV_get i 5)
theorem Blk.c38 (h : Blk w r t (svV s z)) (i : IsSv w' M s z) : w.cell? ⟨r, 38, none⟩ = some (.slice z.p3 z.n3 z.c3) := (h.c 38).trans (svV_get i 6)
theorem Blk.c39 (h : Blk w r t (svV s z)) (i : IsSv w' M s z) : w.cell? ⟨r, 39, none⟩ = some (.int .i64 s.psk) := (h.c 39).trans (svV_get i 7)
theorem Blk.rnd (h : Blk w r t (svV s z)) (i : IsSv w' M s z) : w.rangeAt r 0 (s.R.map B8) := by
  intro j v hv
  simp only [List.getElem?_map, Option.map_eq_some_iff] at hv
  obtain ⟨x, hx, rfl⟩ := hv
  obtain ⟨hj, rfl⟩ := List.getElem?_eq_some_iff.1 hx
  rw [h.c, Nat.zero_add]
  exact svV_rnd i j (by rw [← i.len]; exact hj)
end
theorem Try.infoSv : (Try.prog.info? 33).map (·.size) = some 40 := by kernel_rfl
theorem Try.infoRv : (Try.prog.info? 27).map (·.size) = some 40 := by kernel_rfl

/-! ### Arrays of 32 bytes -/
theorem run_sizeOf1 (w : World) : (sizeOf 5).run Try.prog w = .ok 1 w := by
  have h : (Try.prog.info? 5).map (·.size) = some 1 := by kernel_rfl
  cases hq : Try.prog.info? 5 with
  | none => simp [hq] at h
  | some i =>
    have h2 : i.size = 1 := by simpa [hq] using h
    simp [sizeOf, typeInfo, hq, h2]
theorem Try.guard32 : Try.prog.eqGuardType Try.prog.depth 22 = false := by kernel_rfl
theorem run_eq32 (w : World) (d : Nat) (A B : List UInt8) (hA : A.length = 32) (hB : B.length = 32) : (Op.equalIn (d + 2) 22 (.agg (A.map B8).toArray) (.agg (B.map B8).toArray)).run Try.prog w = .ok (A == B) w :=
  run_equalIn_bytes w d 22 5 32 Try.underlying22 Try.underlying5 run_sizeOf1 A B hA hB

/-! ### What goes together -/
theorem beq_cast (n : Nat) : ((n : Int) == 0) = decide (n = 0) := by by_cases h : n = 0 <;> simp [h]
def fitsS (s : Sv) : Bool := if s.retry then (decide (s.key.length = 0) && decide (s.psk = -1)) && (decide (s.grp ≠ 0) || decide (0 < s.cook.length)) else if s.R = retryL then false else (decide (s.cook.length = 0) && decide (-1 ≤ s.psk)) && (decide (s.grp ≠ 0) || decide (s.key.length = 0))

def BoolR (w : World) (b : Bool) (e : Ending) (w' : World) : Prop := e = .returned (.bool b) ∧ Below w.heap.size w w'
set_option maxHeartbeats 4000000 in
set_option maxRecDepth 100000 in
theorem fits_c (s : Sv) (z : S3) (M : Nat) (w : World) (h : IsSv w M s z) : Calls Try.prog 28 #[.agg (svV s z)] w (BoolR w (fitsS s)) := by
  have hB := Blk.new w 33 (svV s z)
  have hb0 : Below w.heap.size w (w.alloc (.cells (svV s z) 33)) := (Below.refl _ _).alloc (Nat.le_refl _) _
  have c35 := hB.c35 h
  have c36 := hB.c36 h
  have c37 := hB.c37 h
  have c38 := hB.c38 h
  have c39 := hB.c39 h
  have l2 := h.s2.1
  have l3 := h.s3.1
  have HB := Lib.hid (And.intro hB (And.intro hb0 h))
  obtain ⟨re, hre⟩ : ∃ re, re = s.retry := ⟨_, rfl⟩
  obtain ⟨bf, hbf⟩ : ∃ bf, bf = fitsS s := ⟨_, rfl⟩
  rw [← hre] at c37
  rw [← hbf]
  unfold fitsS at hbf
  rw [l2, l3, ← hre] at hbf
  have HBF := Lib.hid hbf
  clear hB hb0 h hbf hre
  cases re
  · go_enter Try.func28, Try.ntmps28
    go_upto_region 3 with (fail)
    have hs := fun w => run_eq32 w 9998 s.R retryL HB.out.2.2.len retryL_len
    have hg := Try.guard32
    obtain ⟨wq, hwq⟩ : ∃ wq, wq = w.alloc (.cells (svV s z) 33) := ⟨_, rfl⟩
    rw [← hwq]
    rw [← hwq] at c35 c36 c37 c38 c39 HB
    have HQ := Lib.hid hwq
    clear hwq
    have hI0 : Blk wq w.heap.size 33 (svV s z) ∧ Below w.heap.size w wq := ⟨HB.out.1, HB.out.2.1⟩
    have hI : Blk wq.drew w.heap.size 33 (svV s z) ∧ Below w.heap.size w wq.drew := ⟨HB.out.1, HB.out.2.1.drew⟩
    go_cut [28] (fun v28 wx => v28 = .bool (s.R == retryL) ∧ Blk wx w.heap.size 33 (svV s z) ∧ Below w.heap.size w wx)
    case first =>
      have hu := Try.underlying22
      have hi : (Try.prog.info? 22).map (·.size) = some (s.R.map B8).length := by rw [List.length_map, HB.out.2.2.len]; exact Try.infoB32
      go_region_held3 (fun w' => w'.rangeAt w.heap.size 0 (s.R.map B8)) (first | exact hI.1.rnd HB.out.2.2 | exact hI0.1.rnd HB.out.2.2) (first
        | (go_at_call 29; refine (retry_c _).mono ?_; rintro e w1 ⟨rfl, b1⟩; have hI2 : Blk w1 w.heap.size 33 (svV s z) ∧ Below w.heap.size w w1 := ⟨hI.1.below b1, hI.2.trans (b1.mono hI.2.size)⟩; clear hI; have hI := hI2; clear hI2))
      all_goals go_wp2
      all_goals go_meet
      all_goals exact ⟨rfl, hI⟩
    case rest =>
      obtain ⟨rfl, hI2⟩ := hcut
      have d35 := hI2.1.c35 HB.out.2.2
      have d36 := hI2.1.c36 HB.out.2.2
      have d38 := hI2.1.c38 HB.out.2.2
      have d39 := hI2.1.c39 HB.out.2.2
      clear hI hI0 c35 c36 c37 c38 c39 hs hg
      have HI := Lib.hid hI2
      clear hI2
      by_cases hR : s.R = retryL
      · have hb : (s.R == retryL) = true := by simpa using hR
        have HR := Lib.hid hR
        clear hR
        go_wp2
        all_goals go_ret
        all_goals (refine ⟨congrArg Ending.returned (congrArg Value.bool ?_), HI.out.2⟩)
        all_goals (have hx := HBF.out; have hr := HR.out; clear d35 d36 d38 d39 HB HBF l2 l3 HI HR; simp_all [beq_cast]; try (intros; omega))
      · have hb : (s.R == retryL) = false := by simpa using hR
        have HR := Lib.hid hR
        clear hR
        go_wp2
        all_goals go_ret
        all_goals (refine ⟨congrArg Ending.returned (congrArg Value.bool ?_), HI.out.2⟩)
        all_goals (have hx := HBF.out; have hr := HR.out; clear d35 d36 d38 d39 HB HBF l2 l3 HI HR; simp_all [beq_cast]; try (intros; omega))
  · go_enter Try.func28, Try.ntmps28
    go_wp2
    all_goals go_ret
    all_goals (refine ⟨congrArg Ending.returned (congrArg Value.bool ?_), HB.out.2.1⟩)
    all_goals (have hx := HBF.out; clear c35 c36 c37 c38 c39 HB HBF l2 l3; simp_all [beq_cast])
end Go.Proofs.Ytegmimnhkohaoaa
