/-
  The contract of hello.GetServer. Condition: at most 2 to the 46th bytes.
-/
import Derived.Test.YtegmimnhkohaoaaZg6
import Derived.Test.YtegmimnhkohaoaaZg4
import Derived.Deep.CutBlock
import Derived.Deep.WholeRow
namespace Go.Proofs.Ytegmimnhkohaoaa
open Go.RowKit Go.Kx
set_option linter.unusedVariables false
set_option linter.unusedSimpArgs false

/-- The Server at the start of a reading; no Server. -/
def sv0 : Sv := ⟨List.replicate 32 0, [], 0, 771, 0, [], false, [], -1⟩
def svZ : Sv := ⟨List.replicate 32 0, [], 0, 0, 0, [], false, [], 0⟩
def z0 : S3 := ⟨none, 0, 0, none, 0, 0, none, 0, 0⟩
def rndG (l : List UInt8) : List UInt8 := l ++ (List.replicate 32 (0 : UInt8)).drop l.length
def getS1 (R : List UInt8) : Sv := if R = retryL then { sv0 with retry := true } else { sv0 with R := R }
/-- What GetServer tells, step by step. -/
def gsZ (st : Sv) (l : List UInt8) (bad : Int) : Sv × Int := if doneS l bad = 0 then (st, 0) else (svZ, doneS l bad)
def gsB (st : Sv) (bad : Int) : Int := if st.retry = true ∧ st.grp = 0 ∧ st.cook.length = 0 then rm bad 3 else bad
def gsX (st : Sv) (m : List UInt8 × Int) : Sv × Int :=
  let a := vecS m.1 m.2 2 0 65535
  let x := extsL srvF (a.1.length + 1) st [] a.1 0
  gsZ x.1 a.2.1 (gsB x.1 (insB a.2.2 x.2))
def gsV (st : Sv) (m : List UInt8 × Int) : Sv × Int :=
  let u := rU m.1 m.2 2
  gsX { st with suite := u.1 } (mustS u.2.1 u.2.2 0 1)
def gsU (st : Sv) (l : List UInt8) (bad : Int) : Sv × Int :=
  let v := vecS l bad 1 0 32
  gsV { st with ses := v.1 } v.2
def gsT (m : List UInt8 × Int) : Sv × Int := gsU (getS1 (rndG (outS m.1 m.2 32))) (leftS m.1 m.2 32) (badS m.1 m.2 32)
def getS (b : List UInt8) : Sv × Int := gsT (mustS b 0 771 2)
theorem mustS_left (s : List UInt8) (bad n W : Int) : (mustS s bad n W).1.length ≤ s.length := rU_left s bad W

theorem Try.zeroSv : (Try.prog.info? 33).map (fun i => (i.zero, i.size)) = some (some (.agg (svV svZ z0)), 40) := by kernel_rfl
theorem run_zeroSv (w : World) : (zeroValue 33).run Try.prog w = .ok (.agg (svV svZ z0)) w := (zero_of_info Try.zeroSv).1 w
theorem Try.built_sv0 : Try.prog.built 33 [(3, .int .i64 771), (7, .int .i64 (-1))] = some (svV sv0 z0) := by kernel_rfl
theorem Try.built_svZ : Try.prog.built 33 [] = some (svV svZ z0) := by kernel_rfl
theorem Try.built_z32 : Try.prog.built 22 [] = some ((List.replicate 32 (0 : UInt8)).map B8).toArray := by kernel_rfl
theorem svV_ones (s : Sv) (z : S3) : (svV s z).all (·.oneCell') = true := by
  rw [svV_cells]
  refine all_oneCell_toArray (fun v hv => ?_)
  rw [List.mem_append] at hv
  rcases hv with hv | hv
  · simp only [List.mem_map] at hv
    obtain ⟨b, _, rfl⟩ := hv
    rfl
  · simp only [cellsL, List.mem_cons, List.not_mem_nil, or_false] at hv
    rcases hv with h | h | h | h | h | h | h | h <;> subst h <;> rfl
theorem svV_size' (s : Sv) (z : S3) (h : s.R.length = 32) : (svV s z).size = 40 := by simp [svV, svC, h]
theorem svV_len (s : Sv) (z : S3) (h : s.R.length = 32) : (svV s z).toList.length = 40 := by rw [Array.length_toList, svV_size' s z h]
theorem Blk.setRow {w : World} {r t : Nat} {C : Array Value} (h : Blk w r t C) (D : Array Value) : Blk (w.setRow r D) r t D := setRow_heap w r _ D t _ h
theorem only_setRow' (w : World) (g : Nat) (cs : Array Value) : Only (· = g) w (w.setRow g cs) :=
  ⟨rfl, rfl, rfl, by simp, fun k _ hk => setRow_other w g k cs hk⟩
/-- A store of a whole struct. -/
theorem st_blk {P : Program} {ops : Array Oper} {rest : List Oper} {op : Oper} {a : Act} {w : World} {Q : Exit → Act → World → Prop} (hgd : op.guard = none) (ty : TypeId) (x y : Operand) (ho : op.op = .store ty x y)
    (g : Nat) (C : Array Value) (hx : a.eval x = .pointer (some ⟨g, 0, none⟩)) (hy : a.eval y = .agg C) (t : TypeId) (old : Array Value) (hg : Blk w g t old) (hi : (P.info? ty).map (·.size) = some C.size) (hl : old.size = C.size) (h1 : C.all (·.oneCell') = true)
    (h : ∀ w', Blk w' g t C → Only (· = g) w w' → wpList P ops Q rest (a.put op.dst undef) w') : wpList P ops Q (op :: rest) a w :=
  wpList_store_row hgd ty x y ho g C hx hy t old hg hi hl h1 (h _ (hg.setRow C) (only_setRow' w g _))
/-- A result that is a struct in memory beside one more. -/
theorem results_ct {P : Program} {fn : Func} (p u : Tmp) {ty : TypeId} (h : fn.results = #[.cell p ty, .tmp u]) (tmps : Array Value) (w : World) (g : Nat) (t : TypeId) (cs : Array Value) (d : TypeDesc) (U : Value)
    (hp : tmps.getD p undef = .pointer (some ⟨g, 0, none⟩)) (hU : tmps.getD u undef = U) (hg : Blk w g t cs)
    (hu : P.underlying ty = some d) (hd : (match d with | .struct _ | .array _ _ => true | _ => false) = true) (hi : (P.info? ty).map (·.size) = some cs.size) :
    (results fn tmps).run P w = .ok (.tuple #[.agg cs, U]) w := by
  subst hU
  have hp' : tmps[p]?.getD undef = .pointer (some ⟨g, 0, none⟩) := by simpa using hp
  simp [results, h, hp', asAddr, run_loadVar_row w g t ty cs (0, 0) d hg hu hd hi]
theorem splice_set (L : List Value) (o : Nat) (v : Value) (vs : List Value) (h : o < L.length) : splice (L.set o v) (o + 1) vs = splice L o (v :: vs) := by
  unfold splice
  have e1 : (L.set o v).take (o + 1) = L.take o ++ [v] := by
    rw [List.take_succ_eq_append_getElem (by simpa using h)]
    simp [List.take_set]
    rw [List.set_eq_of_length_le (by simp; omega)]
  have e2 : (L.set o v).drop (o + 1 + vs.length) = L.drop (o + (v :: vs).length) := by
    rw [List.drop_set, if_pos (by omega)]
    congr 1
    simp
    omega
  rw [e1, e2]
  simp
theorem blk_setCells {r t : Nat} : ∀ (vs : List Value) (o : Nat) (w : World) (C : Array Value), Blk w r t C → o + vs.length ≤ C.size → Blk (w.setCells r o vs) r t (splice C.toList o vs).toArray ∧ Only (· = r) w (w.setCells r o vs)
  | [], o, w, C, h, _ => by
    refine ⟨?_, Only.refl _ _⟩
    have e : splice C.toList o [] = C.toList := by simp [splice]
    rw [e, Array.toArray_toList]
    exact h
  | v :: vs, o, w, C, h, hl => by
    have hl' : o + (vs.length + 1) ≤ C.size := hl
    have h1 : Blk (w.setCell ⟨r, o, none⟩ v) r t (C.setIfInBounds o v) := by
      unfold Blk at *
      simp [World.setCell, Array.getElem?_modify, h]
    obtain ⟨h2, h3⟩ := blk_setCells vs (o + 1) _ _ h1 (by rw [Array.size_setIfInBounds]; omega)
    refine ⟨?_, ((Only.refl (fun k => k = r) w).setCell _ _ (.inl rfl)).then h3⟩
    rw [show (C.setIfInBounds o v).toList = C.toList.set o v by simp, splice_set _ _ _ _ (by simp; omega)] at h2
    exact h2
/-- A store of a part of a struct. -/
theorem st_part {P : Program} {ops : Array Oper} {rest : List Oper} {op : Oper} {a : Act} {w : World} {Q : Exit → Act → World → Prop} (hgd : op.guard = none) (ty : TypeId) (x y : Operand) (ho : op.op = .store ty x y)
    (g o : Nat) (vs : List Value) (hx : a.eval x = .pointer (some ⟨g, o, none⟩)) (hy : a.eval y = .agg vs.toArray) (t : TypeId) (C : Array Value) (hg : Blk w g t C) (hi : (P.info? ty).map (·.size) = some vs.length) (hl : o + vs.length ≤ C.size) (h1 : ∀ v ∈ vs, v.oneCell' = true)
    (h : ∀ w', Blk w' g t (splice C.toList o vs).toArray → Only (· = g) w w' → wpList P ops Q rest (a.put op.dst undef) w') : wpList P ops Q (op :: rest) a w := by
  refine wpList_store_mid hgd ty x y ho g o vs.toArray hx hy (fun j hj => ⟨?_, hg.fr _⟩) (by rw [hi]; simp) (all_oneCell_toArray h1) ?_
  · rw [hg.c]
    have : j < vs.length := by simpa using hj
    rw [Array.getElem?_eq_getElem (by omega)]
    rfl
  · obtain ⟨h2, h3⟩ := blk_setCells vs o w C hg hl
    rw [List.toList_toArray]
    exact h _ h2 h3
theorem splice_rnd (s : Sv) (z : S3) (R : List UInt8) (h : s.R.length = 32) (hR : R.length = 32) : (splice (svV s z).toList 0 (R.map B8)).toArray = svV { s with R := R } z := by
  rw [svV_cells, svV_cells]
  unfold splice
  simp [h, hR, cellsL]
theorem splice_rndG (s : Sv) (z : S3) (l : List UInt8) (h : s.R = List.replicate 32 0) (hl : l.length ≤ 32) : (splice (svV s z).toList 0 (l.map B8)).toArray = svV { s with R := rndG l } z := by
  rw [svV_cells, svV_cells]
  unfold splice rndG
  rw [h]
  have hZ : (List.replicate 32 (0 : UInt8)).length = 32 := List.length_replicate
  generalize List.replicate 32 (0 : UInt8) = Z at *
  show (([] : List Value) ++ (l.map B8 ++ List.drop (0 + (l.map B8).length) (Z.map B8 ++ cellsL s z))).toArray = ((l ++ Z.drop l.length).map B8 ++ cellsL s z).toArray
  rw [Nat.zero_add, List.length_map, List.drop_append, List.length_map, hZ, show l.length - 32 = 0 by omega, List.drop_zero, List.map_append, List.map_drop, List.nil_append, List.append_assoc]

theorem rd_src {w : World} {S : Nat → Prop} {p : Option Addr} {l : List UInt8} (h : Rd w S p l) (hl : 0 < (l.map B8).length) : ∃ ad, p = some ad ∧ ∀ j v, (l.map B8)[j]? = some v → w.cell? (ad.add j) = some v := by
  cases p with
  | none => rw [h.none_nil] at hl; simp at hl
  | some a =>
    refine ⟨a, rfl, fun j v hv => ?_⟩
    simp only [List.getElem?_map, Option.map_eq_some_iff] at hv
    obtain ⟨x, hx, rfl⟩ := hv
    obtain ⟨hj, rfl⟩ := List.getElem?_eq_some_iff.1 hx
    obtain ⟨a', ha', _, hc'⟩ := h j hj
    cases ha'
    exact hc'
theorem outS_len (s : List UInt8) (bad : Int) (n : Nat) : (outS s bad (n : Int)).length ≤ n := by
  unfold outS
  split
  · rw [List.length_take, Int.toNat_natCast]; omega
  · simp
theorem outS_32 (s : List UInt8) (bad : Int) : (outS s bad 32).length ≤ 32 := outS_len s bad 32

/-- A Server that GetServer tells: its slices lie in new blocks. -/
structure SvN (w : World) (S : Nat → Prop) (s : Sv) (z : S3) : Prop where
  len : s.R.length = 32
  s1 : SlS w S z.p1 z.n1 z.c1 s.ses
  s2 : SlS w S z.p2 z.n2 z.c2 s.key
  s3 : SlS w S z.p3 z.n3 z.c3 s.cook
def GetSR (w : World) (y : Sv × Int) (e : Ending) (w' : World) : Prop := ∃ z, e = .returned (.tuple #[.agg (svV y.1 z), .int .i64 y.2]) ∧ SvN w' (fun k => w.heap.size ≤ k) y.1 z ∧ Below w.heap.size w w'
theorem rndG_len {l : List UInt8} (h : l.length ≤ 32) : (rndG l).length = 32 := by unfold rndG; simp; omega

/-- What stays while a Server is read. -/
structure GsI (w : World) (q0 r g : Nat) (st : Sv) (z : S3) (l : List UInt8) (b : Int) (wx : World) : Prop where
  cur : Cur wx r g l b
  bel : Below w.heap.size w wx
  zb : Blk wx w.heap.size 33 (svV svZ z0)
  sv : SvB wx q0 (fun k => q0 < k) st z
  hr : w.heap.size < r
  hg : w.heap.size < g
  hrq : r < q0
  hgq : g < q0
section
variable {w wx wy : World} {q0 r g : Nat} {st st' : Sv} {z z' : S3} {l l' : List UInt8} {b b' : Int}
theorem GsI.step (h : GsI w q0 r g st z l b wx) (hc : Cur wy r g l' b') (ho : Only (· = r) wx wy) : GsI w q0 r g st z l' b' wy :=
  ⟨hc, below_only h.bel h.bel.size ho (by intro k hk e; have := h.hr; omega), h.zb.only ho (by have := h.hr; omega), h.sv.only ho (fun k hk => by have := h.hrq; subst hk; exact ⟨by omega, by omega⟩), h.hr, h.hg, h.hrq, h.hgq⟩
theorem GsI.below (h : GsI w q0 r g st z l b wx) (hb : Below wx.heap.size wx wy) : GsI w q0 r g st z l b wy :=
  ⟨h.cur.only (Only.of_below (r := fun _ => False) hb) (fun h => h) (fun h => h), h.bel.trans (hb.mono h.bel.size), h.zb.below hb, h.sv.only (Only.of_below (r := fun _ => False) hb) (fun _ h => h.elim), h.hr, h.hg, h.hrq, h.hgq⟩
theorem GsI.set (h : GsI w q0 r g st z l b wx) (hs : SvB wy q0 (fun k => q0 < k) st' z') (ho : Only (· = q0) wx wy) : GsI w q0 r g st' z' l b wy :=
  ⟨h.cur.only ho (by have := h.hrq; omega) (by have := h.hgq; omega), below_only h.bel h.bel.size ho (by intro k hk e; have := h.hr; have := h.hrq; omega), h.zb.only ho (by have := h.hr; have := h.hrq; omega), hs, h.hr, h.hg, h.hrq, h.hgq⟩
theorem GsI.drew (h : GsI w q0 r g st z l b wx) : GsI w q0 r g st z l b wx.drew := h.below ((Below.refl _ _).drew)
end
theorem SvB.rnd {w : World} {q0 : Nat} {S : Nat → Prop} {s : Sv} {z : S3} (h : SvB w q0 S s z) : w.rangeAt q0 0 (s.R.map B8) := by
  intro j v hv
  simp only [List.getElem?_map, Option.map_eq_some_iff] at hv
  obtain ⟨x, hx, rfl⟩ := hv
  rw [h.b.c, Nat.zero_add, svV_cells, List.getElem?_toArray, List.getElem?_append_left (by rw [List.length_map]; exact (List.getElem?_eq_some_iff.1 hx).1), List.getElem?_map, hx]
  rfl
theorem nilS (w : World) (S : Nat → Prop) : SlS w S none 0 0 [] := SlS.nil w S

set_option maxHeartbeats 4000000 in
set_option maxRecDepth 100000 in
theorem getServer_c (S : Nat → Prop) (p : Option Addr) (n c : Nat) (b : List UInt8) (w : World) (hR : Rd w S p b) (hp : p = none → c = 0) (hl : b.length ≤ 70368744177664) (hn : b.length = n) :
    Calls Try.prog 13 #[.slice p n c] w (GetSR w (getS b)) := by
  have HR := Lib.hid (And.intro hR (And.intro hp hn))
  clear hR hp hn
  have hz := run_zeroSv
  obtain ⟨y, hy⟩ : ∃ y, y = getS b := ⟨_, rfl⟩
  rw [← hy]
  have HGS := Lib.hid hy
  clear hy
  go_enter Try.func13, Try.ntmps13
  go_upto_region 1 with (fail)
  have hB0 : Below w.heap.size w (w.alloc (.cells (svV svZ z0) 33)) := (Below.refl _ _).alloc (Nat.le_refl _) _
  have hb0 := Blk.new w 33 (svV svZ z0)
  generalize w.alloc (.cells (svV svZ z0) 33) = w0 at *
  have HR0 := Lib.hid (And.intro (HR.out.1.below hB0) (And.intro hB0 hb0))
  have hsz0 := hb0.lt
  clear hB0 hb0
  go_upto_region 3 with (first
    | (go_at_call 42; refine (new_c S p n c b _ HR0.out.1 HR.out.2.1 (by omega) HR.out.2.2).mono ?_; rintro e w1 ⟨r, g, rfl, h1, h2, h3, hc, hb1⟩; have hgl := hc.glt; have hsz1 := hb1.size; have hB2 : Below w1.heap.size w1 (w1.alloc (.cells (svV svZ z0) 33)) := (Below.refl _ _).alloc (Nat.le_refl _) _; have H1 := Lib.hid (And.intro (hc.only (Only.of_below (r := fun _ => False) hB2) (fun h => h) (fun h => h)) (And.intro (HR0.out.2.1.trans ((hb1.trans (hB2.mono hsz1)).mono (by omega))) (And.intro ((HR0.out.2.2.below hb1).below hB2) (Blk.new w1 33 (svV svZ z0))))); have hsz2 := World.size_alloc w1 (.cells (svV svZ z0) 33); clear hc hb1 hB2)
    | (refine wpList_build_eq rfl 33 _ rfl (C := svV sv0 z0) rfl Try.built_sv0 ?_)
    | (refine st_blk rfl 33 (.tmp 5) (.tmp 9) rfl w1.heap.size (svV sv0 z0) rfl rfl 33 (svV svZ z0) H1.out.2.2.2 (by rw [svV_size' _ _ rfl]; exact Try.infoSv) (by rw [svV_size' _ _ rfl, svV_size' _ _ rfl]) (svV_ones _ _) ?_; intro w2 hb2 ho2; have H2 := Lib.hid (And.intro hb2 ho2); clear hb2 ho2))
  clear hz HR0
  have hs2 := H2.out.1.lt
  have hI2 : Cur w2 r g b 0 ∧ Below w.heap.size w w2 ∧ Blk w2 w.heap.size 33 (svV svZ z0) ∧ Blk w2 w1.heap.size 33 (svV sv0 z0) :=
    ⟨H1.out.1.only H2.out.2 (by omega) (by omega), below_only H1.out.2.1 (by omega) H2.out.2 (by intro k hk e; omega), H1.out.2.2.1.only H2.out.2 (by omega), H2.out.1⟩
  have I2 := Lib.hid hI2
  clear hI2 H1 H2
  have hm := mustS_left b 0 771 2
  have HM := Lib.hid (must_c r g b 0 771 2 w2 I2.out.1)
  have hy := HGS.out
  unfold getS at hy
  generalize mustS b 0 771 2 = m at *
  have hsr : r < w2.heap.size := by omega
  have HY0 := Lib.hid hy
  clear hy
  go_upto_region 4 with (go_at_call 43; refine HM.out.mono ?_; rintro e w3 ⟨rfl, hc, ho⟩; have I3 := Lib.hid (show Cur w3 r g m.1 m.2 ∧ Below w.heap.size w w3 ∧ Blk w3 w.heap.size 33 (svV svZ z0) ∧ Blk w3 w1.heap.size 33 (svV sv0 z0) from ⟨hc, below_only I2.out.2.1 I2.out.2.1.size ho (by intro k hk e; omega), I2.out.2.2.1.only ho (by omega), I2.out.2.2.2.only ho (by omega)⟩); clear hc ho)
  clear I2 HM
  have ho32 := outS_32 m.1 m.2
  have hlo := leftS_le m.1 m.2 32
  have HBy := Lib.hid (fun wx (h : Cur wx r g m.1 m.2) => bytes_c r g m.1 m.2 32 wx h (by omega))
  have hy1 : y = gsU (getS1 (rndG (outS m.1 m.2 32))) (leftS m.1 m.2 32) (badS m.1 m.2 32) := HY0.out
  clear HY0
  generalize outS m.1 m.2 32 = o at *
  generalize leftS m.1 m.2 32 = l1 at *
  generalize badS m.1 m.2 32 = b1 at *
  have HY1 := Lib.hid hy1
  clear hy1
  have hd3 : Cur w3.drew r g m.1 m.2 := I3.out.1.only ((Only.refl (fun _ => False) w3).drew) (fun h => h) (fun h => h)
  have HD := Lib.hid hd3
  clear hd3
  have hs3 : w1.heap.size < w3.heap.size := I3.out.2.2.2.lt
  have HFIT := Lib.hid (show 0 + (o.map B8).length ≤ (svV sv0 z0).toList.length by rw [List.length_map, svV_len _ _ rfl]; omega)
  go_region_held3 (fun w' => True) (trivial) (first
    | (go_at_call 44; refine (HBy.out _ (by first | exact HD.out | exact I3.out.1)).mono ?_; rintro e w4 ⟨g', p', c', rfl, k1, hO, hc, hoq⟩; have ho : Only (· = r) w3 w4 := ⟨hoq.os, hoq.tape, hoq.output, hoq.size, hoq.block⟩; clear hoq; have H4 := Lib.hid (And.intro hO (And.intro hc (And.intro (I3.out.2.2.1.only ho (by omega)) (And.intro (I3.out.2.2.2.only ho (by omega)) (below_only I3.out.2.1 I3.out.2.1.size ho (by intro k hk e; omega)))))); have hs4 := ho.size; clear hO hc ho)
    | (refine step_copy_splice rfl (.tmp 13) (.tmp 15) 23 23 rfl 5 Try.underlying23 (by kernel_rfl) _ _ _ _ _ _ rfl rfl w1.heap.size 0 (svV sv0 z0).toList 33 (by rw [Array.toArray_toList]; exact H4.out.2.2.2.1) (o.map B8) (by rw [List.length_map]; exact (Nat.min_eq_left ho32).symm) (fun h0 => ⟨rfl, rd_src H4.out.1.rd h0⟩) HFIT.out (oneCell_map _) w1.heap.size w4 (Below.refl _ _) (Nat.le_refl _) ?_; intro w5 hg5 hb5; have HG5 := Lib.hid (And.intro hg5.out hb5); clear hg5 hb5))
  have hRl : (rndG o).length = 32 := rndG_len ho32
  have hG5 : GsI w w1.heap.size r g { sv0 with R := rndG o } z0 l1 b1 w5 := by
    have ho5 := Only.of_belowN HG5.out.2
    refine ⟨H4.out.2.1.only ho5 (by omega) (by omega), below_only H4.out.2.2.2.2 H4.out.2.2.2.2.size ho5 (by intro k hk e; omega), H4.out.2.2.1.only ho5 (by omega), ⟨?_, hRl, nilS _ _, nilS _ _, nilS _ _⟩, by omega, by omega, h2, hgl⟩
    have h := HG5.out.1
    rw [splice_rndG sv0 z0 o rfl ho32] at h
    exact h
  have G5 := Lib.hid hG5
  have hs5 := hG5.bel.size
  clear hG5 HG5 H4 I3 HD HFIT HBy
  generalize rndG o = R at *
  generalize w1.heap.size = q0 at *
  go_upto_region 5 with (fail)
  go_cut [20] (fun v20 wx => v20 = .bool (R == retryL) ∧ GsI w q0 r g { sv0 with R := R } z0 l1 b1 wx)
  case first =>
    have hs := fun w => run_eq32 w 9998 R retryL hRl retryL_len
    have hgu := Try.guard32
    have hu := Try.underlying22
    have hi : (Try.prog.info? 22).map (·.size) = some (R.map B8).length := by rw [List.length_map, hRl]; exact Try.infoB32
    have hI0 := G5.out
    have hI := G5.out.drew
    go_region_held3 (fun w' => w'.rangeAt q0 0 (R.map B8)) (first | exact hI.sv.rnd | exact hI0.sv.rnd) (first
      | (go_at_call 29; refine (retry_c _).mono ?_; rintro e w1 ⟨rfl, b1⟩; have hI2 := hI.below b1; clear hI; have hI := hI2; clear hI2))
    all_goals go_wp2
    all_goals go_meet
    all_goals exact ⟨rfl, hI⟩
  case rest =>
    obtain ⟨bq, hbq⟩ : ∃ bq, bq = (R == retryL) := ⟨_, rfl⟩
    rw [← hbq] at hcut
    obtain ⟨rfl, hI⟩ := hcut
    have G6 := Lib.hid (And.intro hI hbq)
    clear hI hbq G5
    go_upto_if 20 with (fail)
    go_cut [20] (fun v20 wx => GsI w q0 r g (getS1 R) z0 l1 b1 wx)
    case first =>
      cases bq
      · go_wp2
        go_meet
        have h1 : getS1 R = { sv0 with R := R } := by unfold getS1; rw [if_neg (fun e => by have h := G6.out.2; simp [e] at h)]
        rw [h1]
        exact G6.out.1
      · have c37 := G6.out.1.sv.cell 5
        have f37 := G6.out.1.sv.b.fr 37
        have hp := G6.out.1.sv.put (fun h => Nat.lt_irrefl _ h) 5 (.bool true) { sv0 with R := R, retry := true } z0 rfl rfl (nilS _ _) (nilS _ _) (nilS _ _)
        have P6 := Lib.hid hp
        clear hp
        go_wp2_with (first
          | (refine wpList_build_eq rfl 22 _ rfl (C := ((List.replicate 32 (0 : UInt8)).map B8).toArray) rfl Try.built_z32 ?_)
          | (refine st_part rfl 22 (.tmp 23) (.tmp 21) rfl q0 0 ((List.replicate 32 (0 : UInt8)).map B8) rfl rfl 33 _ P6.out.b Try.infoB32 (by rw [svV_size' _ _ hRl, List.length_map, List.length_replicate]; omega) (oneCell_map _) ?_; intro w6 hb6 ho6))
        go_meet
        have h1 : getS1 R = { sv0 with retry := true } := by unfold getS1; rw [if_pos (by have h := G6.out.2; simpa using h.symm)]
        rw [h1]
        rw [splice_rnd _ _ _ hRl (by rw [List.length_replicate])] at hb6
        exact G6.out.1.set ⟨hb6, List.length_replicate, nilS _ _, nilS _ _, nilS _ _⟩ (((Only.refl (fun k => k = q0) _).setCell _ _ (.inl rfl)).then ho6)
    case rest =>
      have G7 := Lib.hid hcut
      clear hcut G6
      generalize getS1 R = s1 at *
      have hqw := G7.out.sv.b.lt
      have hrw := G7.out.cur.lt
      have hgw := G7.out.cur.glt
      have hwr := G7.out.hr
      have hy2 := HY1.out
      clear HY1
      unfold gsU at hy2
      dsimp only at hy2
      have hlv := vecS_left l1 b1 1 0 32
      have HV := Lib.hid (fun wx (h : Cur wx r g l1 b1) => vector_c r g l1 b1 1 0 32 wx h (by omega))
      generalize vecS l1 b1 1 0 32 = v at *
      have HY2 := Lib.hid hy2
      clear hy2
      go_upto_region 8 with (go_at_call 45; refine (HV.out _ G7.out.cur).mono ?_; rintro e w7 ⟨g7, p7, c7, rfl, hg7, hO, hc, ho⟩; have hz7 := ho.size; have G7a := G7.out.step hc ho; have c32 := G7a.sv.cell 0; have f32 := G7a.sv.b.fr 32; have P7 := Lib.hid (G7a.set (G7a.sv.put (fun h => Nat.lt_irrefl _ h) 0 (.slice p7 v.1.length c7) { s1 with ses := v.1 } { z0 with p1 := p7, n1 := v.1.length, c1 := c7 } rfl rfl (SlS.of_own hO rfl (show q0 < g7 by omega)) G7a.sv.s2 G7a.sv.s3) ((Only.refl (fun k => k = q0) _).setCell _ _ (.inl rfl))); clear hc ho hO G7a hg7)
      have hq7 := P7.out.sv.b.lt
      generalize w7.setCell ⟨q0, 32, none⟩ (.slice p7 v.1.length c7) = w8 at *
      generalize ({ z0 with p1 := p7, n1 := v.1.length, c1 := c7 } : S3) = z1 at *
      generalize ({ s1 with ses := v.1 } : Sv) = s2 at *
      clear G7 HV
      have hy3 := HY2.out
      clear HY2
      unfold gsV at hy3
      dsimp only at hy3
      have hlu := rU_left v.2.1 v.2.2 2
      have HU := Lib.hid (fun wx (h : Cur wx r g v.2.1 v.2.2) => ruint_c r g v.2.1 v.2.2 2 wx h)
      generalize rU v.2.1 v.2.2 2 = u at *
      have hlm := mustS_left u.2.1 u.2.2 0 1
      have HMU := Lib.hid (fun wx (h : Cur wx r g u.2.1 u.2.2) => must_c r g u.2.1 u.2.2 0 1 wx h)
      generalize mustS u.2.1 u.2.2 0 1 = m2 at *
      have HY3 := Lib.hid hy3
      clear hy3
      go_upto_region 10 with (first
        | (go_at_call 46; refine (HU.out _ P7.out.cur).mono ?_; rintro e w9 ⟨rfl, hc, ho⟩; have hz9 := ho.size; have G9 := P7.out.step hc ho; have c33 := G9.sv.cell 1; have f33 := G9.sv.b.fr 33; have P9 := Lib.hid (G9.set (G9.sv.put (fun h => Nat.lt_irrefl _ h) 1 (.int .i64 u.1) { s2 with suite := u.1 } z1 rfl rfl G9.sv.s1 G9.sv.s2 G9.sv.s3) ((Only.refl (fun k => k = q0) _).setCell _ _ (.inl rfl))); clear hc ho G9)
        | (go_at_call 43; refine (HMU.out _ P9.out.cur).mono ?_; rintro e w10 ⟨rfl, hc, ho⟩; have G10 := Lib.hid (P9.out.step hc ho); clear hc ho))
      have hq10 := G10.out.sv.b.lt
      clear HU HMU P7 P9
      have hy4 := HY3.out
      clear HY3
      generalize ({ s2 with suite := u.1 } : Sv) = s3 at *
      unfold gsX at hy4
      have hX := exts_c (server_ext q0) (fun k => q0 < k) s3 r g m2.1 m2.2 w10 ⟨z1, G10.out.sv⟩ G10.out.cur (fun h => Nat.lt_irrefl _ h) (by omega) (by omega) (by omega) (by omega)
      dsimp only at hy4
      generalize vecS m2.1 m2.2 2 0 65535 = a at *
      generalize extsL srvF (a.1.length + 1) s3 [] a.1 0 = x at *
      generalize insB a.2.2 x.2 = b4 at *
      have HX := Lib.hid hX
      have HY4 := Lib.hid hy4
      clear hX hy4
      go_upto_region 11 with (go_at_call 47; refine HX.out.mono ?_; rintro e w11 ⟨rfl, hc, ⟨z4, hsv⟩, ho⟩; have G11 := Lib.hid (show GsI w q0 r g x.1 z4 a.2.1 b4 w11 from ⟨hc, below_only G10.out.bel G10.out.bel.size ho (by intro k hk e; have := G10.out.hr; omega), G10.out.zb.only ho (by have := G10.out.hr; omega), hsv.mono (fun k _ hk => by omega), G10.out.hr, G10.out.hg, G10.out.hrq, G10.out.hgq⟩); clear hc hsv ho)
      have c37 := G11.out.sv.cell 5
      have c35 := G11.out.sv.cell 3
      have c38 := G11.out.sv.cell 6
      simp only [cellsL, List.getElem?_cons_succ, List.getElem?_cons_zero, Nat.reduceAdd] at c37 c35 c38
      clear G10 HX
      obtain ⟨bq, hbq⟩ : ∃ bq, bq = decide (x.1.retry = true ∧ x.1.grp = 0 ∧ x.1.cook.length = 0) := ⟨_, rfl⟩
      have hl3 : x.1.cook.length = z4.n3 := G11.out.sv.s3.1
      have HB := Lib.hid (And.intro hbq hl3)
      clear hbq hl3
      obtain ⟨re, hre⟩ : ∃ re, re = x.1.retry := ⟨_, rfl⟩
      obtain ⟨gr, hgr⟩ : ∃ gr, gr = x.1.grp := ⟨_, rfl⟩
      obtain ⟨n3, hn3⟩ : ∃ n3, n3 = z4.n3 := ⟨_, rfl⟩
      rw [← hre] at c37
      rw [← hgr] at c35
      rw [← hn3] at c38
      have HE := Lib.hid (And.intro hre (And.intro hgr hn3))
      clear hre hgr hn3
      have hcut : ∀ b, b = (re && ((gr == 0) && decide (n3 = 0))) → b = bq := by
        intro b hb
        rw [hb, HB.out.1, HB.out.2, ← HE.out.1, ← HE.out.2.1, ← HE.out.2.2]
        by_cases h1 : re = true <;> by_cases h2 : gr = 0 <;> by_cases h3 : n3 = 0 <;> simp [h1, h2, h3]
      have HC := Lib.hid hcut
      clear hcut
      go_cut [48] (fun v48 wx => v48 = .bool bq ∧ GsI w q0 r g x.1 z4 a.2.1 b4 wx)
      case first =>
        cases re
        · go_wp2
          all_goals go_meet
          all_goals exact ⟨congrArg Value.bool (HC.out _ rfl), G11.out⟩
        · by_cases hg0 : gr = 0
          · have hgb : (gr == 0) = true := by simpa using hg0
            by_cases hn0 : n3 = 0
            · subst hn0
              have HH := Lib.hid (And.intro hg0 hgb)
              subst hg0
              clear hgb
              go_wp2
              all_goals go_meet
              all_goals exact ⟨congrArg Value.bool (HC.out _ rfl), G11.out⟩
            · have hnb : ((n3 : Int) == 0) = false := by rw [beq_cast]; simpa using hn0
              have hnd : decide (n3 = 0) = false := by simpa using hn0
              have HN := Lib.hid hnd
              subst hg0
              clear hgb hnd hn0
              go_wp2
              all_goals go_meet
              all_goals exact ⟨congrArg Value.bool (HC.out _ (by rw [HN.out]; rfl)), G11.out⟩
          · have hgb : (gr == 0) = false := by simpa using hg0
            have HG := Lib.hid hgb
            clear hg0
            go_wp2
            all_goals go_meet
            all_goals exact ⟨congrArg Value.bool (HC.out _ (by rw [HG.out]; rfl)), G11.out⟩
      case rest =>
        obtain ⟨rfl, hI⟩ := hcut
        have G12 := Lib.hid hI
        have hgb : gsB x.1 b4 = if bq = true then rm b4 3 else b4 := by
          unfold gsB
          rw [HB.out.1]
          simp only [decide_eq_true_eq]
        have hy4 := HY4.out
        rw [hgb] at hy4
        have HY5 := Lib.hid hy4
        clear HY4 hy4 hI G11 c35 c37 c38 HC HB HE hgb
        go_upto_if 48 with (fail)
        go_cut [48] (fun v48 wx => GsI w q0 r g x.1 z4 a.2.1 (if bq = true then rm b4 3 else b4) wx)
        case first =>
          cases bq
          · go_wp2
            go_meet
            rw [if_neg Bool.false_ne_true]
            exact G12.out
          · go_wp2_with (go_at_call 49; refine (fail_c r g a.2.1 b4 _ G12.out.cur).mono ?_; rintro e w12 ⟨rfl, hc, ho⟩; have G13 := Lib.hid (G12.out.step hc ho); clear hc ho)
            go_meet
            rw [if_pos trivial]
            exact G13.out
        case rest =>
          have G14 := Lib.hid hcut
          clear hcut G12
          generalize (if bq = true then rm b4 3 else b4) = b5 at *
          have hy5 := HY5.out
          clear HY5
          unfold gsZ at hy5
          have hdn := fun wx (h : Cur wx r g a.2.1 b5) => done_c r g a.2.1 b5 wx h
          generalize doneS a.2.1 b5 = d at *
          have HD := Lib.hid hdn
          clear hdn
          have hlt0 := G14.out.zb.lt
          by_cases hd : d = 0
          · have hyy : y = (x.1, 0) := by rw [hy5, if_pos hd]
            have HYY := Lib.hid hyy
            clear hyy hy5
            subst hd
            go_wp2_with (first
              | (go_at_call 50; refine (HD.out _ G14.out.cur).mono ?_; rintro e w15 ⟨rfl, rfl⟩)
              | (refine wpList_load_mid rfl 33 (.tmp 5) rfl q0 0 rfl (svV x.1 z4).toList _ G14.out.sv.b.range Try.underlying33 rfl (by rw [svV_len _ _ G14.out.sv.len]; exact Try.infoSv) ?_; rw [Array.toArray_toList])
              | (refine st_blk rfl 33 (.tmp 2) (.tmp 57) rfl w.heap.size (svV x.1 z4) rfl rfl 33 (svV svZ z0) G14.out.zb (by rw [svV_size' _ _ G14.out.sv.len]; exact Try.infoSv) (by rw [svV_size' _ _ rfl, svV_size' _ _ G14.out.sv.len]) (svV_ones _ _) ?_; intro w16 hb16 ho16; have H16 := Lib.hid (And.intro hb16 ho16); clear hb16 ho16))
            refine bodyPost_ret (v := .tuple #[.agg (svV x.1 z4), .int .i64 0]) (results_ct (P := Try.prog) 2 3 Try.results13 _ _ w.heap.size _ _ _ (.int .i64 0) rfl rfl H16.out.1 Try.underlying33 rfl (by rw [svV_size' _ _ G14.out.sv.len]; exact Try.infoSv)) rfl ?_
            rw [HYY.out]
            have hw0 := G14.out.hr
            have hw1 := G14.out.hrq
            have hS : ∀ N k, k < N → q0 < k → w.heap.size < k := by intro N k _ hk; omega
            have ho := H16.out.2
            have hn : ∀ k, w.heap.size < k → ¬ k = w.heap.size := by intro k hk e; omega
            exact ⟨z4, rfl, ⟨G14.out.sv.len, ((G14.out.sv.s1.mono (hS _)).only ho hn).mono (fun k _ h => Nat.le_of_lt h), ((G14.out.sv.s2.mono (hS _)).only ho hn).mono (fun k _ h => Nat.le_of_lt h), ((G14.out.sv.s3.mono (hS _)).only ho hn).mono (fun k _ h => Nat.le_of_lt h)⟩, below_only G14.out.bel G14.out.bel.size ho (by intro k hk e; omega)⟩
          · have hyy : y = (svZ, d) := by rw [hy5, if_neg hd]
            have HYY := Lib.hid hyy
            have hdb : (d != 0) = true := by simpa using hd
            clear hyy hy5 hd
            go_wp2_with (first
              | (go_at_call 50; refine (HD.out _ G14.out.cur).mono ?_; rintro e w15 ⟨rfl, rfl⟩)
              | (refine wpList_build_eq rfl 33 _ rfl (C := svV svZ z0) rfl Try.built_svZ ?_)
              | (refine st_blk rfl 33 (.tmp 2) (.tmp 55) rfl w.heap.size (svV svZ z0) rfl rfl 33 (svV svZ z0) G14.out.zb (by rw [svV_size' _ _ rfl]; exact Try.infoSv) rfl (svV_ones _ _) ?_; intro w16 hb16 ho16; have H16 := Lib.hid (And.intro hb16 ho16); clear hb16 ho16))
            refine bodyPost_ret (v := .tuple #[.agg (svV svZ z0), .int .i64 d]) (results_ct (P := Try.prog) 2 3 Try.results13 _ _ w.heap.size _ _ _ (.int .i64 d) rfl rfl H16.out.1 Try.underlying33 rfl (by rw [svV_size' _ _ rfl]; exact Try.infoSv)) rfl ?_
            rw [HYY.out]
            exact ⟨z0, rfl, ⟨List.length_replicate, nilS _ _, nilS _ _, nilS _ _⟩, below_only G14.out.bel G14.out.bel.size H16.out.2 (by intro k hk e; omega)⟩
end Go.Proofs.Ytegmimnhkohaoaa
