/-
  The contracts of relaylaw08's to, from and greets, and relayref08.SameServer of two that are the same. No condition.
-/
import Derived.Test.YtegmimnhkohaoaaZg7
namespace Go.Proofs.Ytegmimnhkohaoaa
open Go.RowKit Go.Kx
set_option linter.unusedVariables false
set_option linter.unusedSimpArgs false

theorem list32 (l : List UInt8) (h : l.length = 32) : ∃ r0 r1 r2 r3 r4 r5 r6 r7 r8 r9 r10 r11 r12 r13 r14 r15 r16 r17 r18 r19 r20 r21 r22 r23 r24 r25 r26 r27 r28 r29 r30 r31, l = [r0, r1, r2, r3, r4, r5, r6, r7, r8, r9, r10, r11, r12, r13, r14, r15, r16, r17, r18, r19, r20, r21, r22, r23, r24, r25, r26, r27, r28, r29, r30, r31] := by
  match l, h with
  | [r0, r1, r2, r3, r4, r5, r6, r7, r8, r9, r10, r11, r12, r13, r14, r15, r16, r17, r18, r19, r20, r21, r22, r23, r24, r25, r26, r27, r28, r29, r30, r31], _ => exact ⟨_, _, _, _, _, _, _, _, _, _, _, _, _, _, _, _, _, _, _, _, _, _, _, _, _, _, _, _, _, _, _, _, rfl⟩
theorem built33 (s : Sv) (z : S3) (h : s.R.length = 32) : Try.prog.built 33 [(0, .agg (s.R.map B8).toArray), (1, .slice z.p1 z.n1 z.c1), (2, .int .i64 s.suite), (3, .int .i64 s.ver), (4, .agg #[.int .i64 s.grp, .slice z.p2 z.n2 z.c2]), (5, .bool s.retry), (6, .slice z.p3 z.n3 z.c3), (7, .int .i64 s.psk)] = some (svV s z) := by
  obtain ⟨r0, r1, r2, r3, r4, r5, r6, r7, r8, r9, r10, r11, r12, r13, r14, r15, r16, r17, r18, r19, r20, r21, r22, r23, r24, r25, r26, r27, r28, r29, r30, r31, hR⟩ := list32 s.R h
  unfold svV svC
  rw [hR]
  kernel_rfl
theorem built27 (s : Sv) (z : S3) (h : s.R.length = 32) : Try.prog.built 27 [(0, .agg (s.R.map B8).toArray), (1, .slice z.p1 z.n1 z.c1), (2, .int .i64 s.suite), (3, .int .i64 s.ver), (4, .agg #[.int .i64 s.grp, .slice z.p2 z.n2 z.c2]), (5, .bool s.retry), (6, .slice z.p3 z.n3 z.c3), (7, .int .i64 s.psk)] = some (svV s z) := by
  obtain ⟨r0, r1, r2, r3, r4, r5, r6, r7, r8, r9, r10, r11, r12, r13, r14, r15, r16, r17, r18, r19, r20, r21, r22, r23, r24, r25, r26, r27, r28, r29, r30, r31, hR⟩ := list32 s.R h
  unfold svV svC
  rw [hR]
  kernel_rfl
theorem Try.zeroRv : (Try.prog.info? 27).map (fun i => (i.zero, i.size)) = some (some (.agg (svV svZ z0)), 40) := by kernel_rfl
theorem run_zeroRv (w : World) : (zeroValue 27).run Try.prog w = .ok (.agg (svV svZ z0)) w := (zero_of_info Try.zeroRv).1 w

set_option maxHeartbeats 4000000 in
set_option maxRecDepth 100000 in
theorem to_c (s : Sv) (z : S3) (M : Nat) (wq w : World) (hI : IsSv wq M s z) : Calls Try.prog 10 #[.agg (svV s z)] w (fun e w' => e = .returned (.agg (svV s z)) ∧ Below w.heap.size w w') := by
  have h := hI.len
  have hB := Blk.new w 27 (svV s z)
  have hb0 : Below w.heap.size w (w.alloc (.cells (svV s z) 27)) := (Below.refl _ _).alloc (Nat.le_refl _) _
  have hb1 := Blk.new (w.alloc (.cells (svV s z) 27)) 33 (svV svZ z0)
  rw [World.size_alloc] at hb1
  have hbb : Below w.heap.size w ((w.alloc (.cells (svV s z) 27)).alloc (.cells (svV svZ z0) 33)) := hb0.alloc hb0.size _
  have hB1 := hB.below (w' := (w.alloc (.cells (svV s z) 27)).alloc (.cells (svV svZ z0) 33)) ((Below.refl _ _).alloc (Nat.le_refl _) _)
  have hz := run_zeroSv
  have c32 := hB1.c32 hI
  have c33 := hB1.c33 hI
  have c34 := hB1.c34 hI
  have c35 := hB1.c35 hI
  have c36 := hB1.c36 hI
  have c37 := hB1.c37 hI
  have c38 := hB1.c38 hI
  have c39 := hB1.c39 hI
  have H := Lib.hid (And.intro hB1 (And.intro hb1 hbb))
  clear hB hb0 hb1 hbb hB1
  go_enter Try.func10, Try.ntmps10
  go_upto_region 1 with (fail)
  clear hz
  generalize (w.alloc (.cells (svV s z) 27)).alloc (.cells (svV svZ z0) 33) = w0 at *
  go_wp2_with (first
    | (refine wpList_load_mid rfl 22 (.tmp 3) rfl w.heap.size 0 rfl (s.R.map B8) _ (H.out.1.rnd hI) Try.underlying22 rfl (by rw [List.length_map, h]; exact Try.infoB32) ?_)
    | (refine wpList_build_eq rfl 31 _ rfl (C := #[.int .i64 s.grp, .slice z.p2 z.n2 z.c2]) rfl (by kernel_rfl) ?_)
    | (refine wpList_build_eq (l := [(0, .agg (s.R.map B8).toArray), (1, .slice z.p1 z.n1 z.c1), (2, .int .i64 s.suite), (3, .int .i64 s.ver), (4, .agg #[.int .i64 s.grp, .slice z.p2 z.n2 z.c2]), (5, .bool s.retry), (6, .slice z.p3 z.n3 z.c3), (7, .int .i64 s.psk)]) rfl 33 _ rfl (by simp [Act.eval, Act.put]) (built33 s z h) ?_)
    | (refine st_blk rfl 33 (.tmp 2) (.tmp 24) rfl (w.heap.size + 1) (svV s z) rfl rfl 33 (svV svZ z0) H.out.2.1 (by rw [svV_size' _ _ h]; exact Try.infoSv) (by rw [svV_size' _ _ rfl, svV_size' _ _ h]) (svV_ones _ _) ?_; intro w5 hb5 ho5; have H5 := Lib.hid (And.intro hb5 ho5); clear hb5 ho5))
  refine bodyPost_ret (v := .agg (svV s z)) (results_cell_row (P := Try.prog) Try.results10 _ _ (w.heap.size + 1) _ _ _ _ rfl H5.out.1 Try.underlying33 rfl (by rw [svV_size' _ _ h]; exact Try.infoSv)) rfl ?_
  exact ⟨rfl, below_only H.out.2.2 H.out.2.2.size H5.out.2 (by intro k hk e; omega)⟩

set_option maxHeartbeats 4000000 in
set_option maxRecDepth 100000 in
theorem from_c (s : Sv) (z : S3) (M : Nat) (wq w : World) (hI : IsSv wq M s z) : Calls Try.prog 15 #[.agg (svV s z)] w (fun e w' => e = .returned (.agg (svV s z)) ∧ Below w.heap.size w w') := by
  have h := hI.len
  have hB := Blk.new w 33 (svV s z)
  have hb0 : Below w.heap.size w (w.alloc (.cells (svV s z) 33)) := (Below.refl _ _).alloc (Nat.le_refl _) _
  have hb1 := Blk.new (w.alloc (.cells (svV s z) 33)) 27 (svV svZ z0)
  rw [World.size_alloc] at hb1
  have hbb : Below w.heap.size w ((w.alloc (.cells (svV s z) 33)).alloc (.cells (svV svZ z0) 27)) := hb0.alloc hb0.size _
  have hB1 := hB.below (w' := (w.alloc (.cells (svV s z) 33)).alloc (.cells (svV svZ z0) 27)) ((Below.refl _ _).alloc (Nat.le_refl _) _)
  have hz := run_zeroRv
  have c32 := hB1.c32 hI
  have c33 := hB1.c33 hI
  have c34 := hB1.c34 hI
  have c35 := hB1.c35 hI
  have c36 := hB1.c36 hI
  have c37 := hB1.c37 hI
  have c38 := hB1.c38 hI
  have c39 := hB1.c39 hI
  have H := Lib.hid (And.intro hB1 (And.intro hb1 hbb))
  clear hB hb0 hb1 hbb hB1
  go_enter Try.func15, Try.ntmps15
  go_upto_region 1 with (fail)
  clear hz
  generalize (w.alloc (.cells (svV s z) 33)).alloc (.cells (svV svZ z0) 27) = w0 at *
  go_wp2_with (first
    | (refine wpList_load_mid rfl 22 (.tmp 3) rfl w.heap.size 0 rfl (s.R.map B8) _ (H.out.1.rnd hI) Try.underlying22 rfl (by rw [List.length_map, h]; exact Try.infoB32) ?_)
    | (refine wpList_build_eq rfl 25 _ rfl (C := #[.int .i64 s.grp, .slice z.p2 z.n2 z.c2]) rfl (by kernel_rfl) ?_)
    | (refine wpList_build_eq (l := [(0, .agg (s.R.map B8).toArray), (1, .slice z.p1 z.n1 z.c1), (2, .int .i64 s.suite), (3, .int .i64 s.ver), (4, .agg #[.int .i64 s.grp, .slice z.p2 z.n2 z.c2]), (5, .bool s.retry), (6, .slice z.p3 z.n3 z.c3), (7, .int .i64 s.psk)]) rfl 27 _ rfl (by simp [Act.eval, Act.put]) (built27 s z h) ?_)
    | (refine st_blk rfl 27 (.tmp 2) (.tmp 24) rfl (w.heap.size + 1) (svV s z) rfl rfl 27 (svV svZ z0) H.out.2.1 (by rw [svV_size' _ _ h]; exact Try.infoRv) (by rw [svV_size' _ _ rfl, svV_size' _ _ h]) (svV_ones _ _) ?_; intro w5 hb5 ho5; have H5 := Lib.hid (And.intro hb5 ho5); clear hb5 ho5))
  refine bodyPost_ret (v := .agg (svV s z)) (results_cell_row (P := Try.prog) Try.results15 _ _ (w.heap.size + 1) _ _ _ _ rfl H5.out.1 Try.underlying27 rfl (by rw [svV_size' _ _ h]; exact Try.infoRv)) rfl ?_
  exact ⟨rfl, below_only H.out.2.2 H.out.2.2.size H5.out.2 (by intro k hk e; omega)⟩
end Go.Proofs.Ytegmimnhkohaoaa
/-
  What the contracts of relaylaw08.To and From share. No condition but those that each theorem states.
-/
namespace Go.Proofs.Ytegmimnhkohaoaa
open Go.RowKit Go.Kx
set_option linter.unusedVariables false
set_option linter.unusedSimpArgs false
set_option maxRecDepth 100000

def Z10.u6 (z : Z10) (p : Option Addr) (n c : Nat) : Z10 := { z with p6 := p, n6 := n, c6 := c }
def Z10.u9 (z : Z10) (p : Option Addr) (n c : Nat) : Z10 := { z with p9 := p, n9 := n, c9 := c }
theorem Try.infoShR : (Try.prog.info? 25).map (fun i => (i.zero, i.size, i.bytes)) = some (some (.agg #[.int .i64 0, .slice none 0 0]), 2, 32) := by kernel_rfl
theorem Try.infoIdR : (Try.prog.info? 51).map (fun i => (i.zero, i.size, i.bytes)) = some (some (.agg #[.slice none 0 0, .int .i64 0]), 2, 32) := by kernel_rfl
theorem Try.zeroRc : (Try.prog.info? 48).map (fun i => (i.zero, i.size)) = some (some (.agg (clV clZ z10)), 42) := by kernel_rfl
theorem run_zeroRc (w : World) : (zeroValue 48).run Try.prog w = .ok (.agg (clV clZ z10)) w := (zero_of_info Try.zeroRc).1 w
theorem Blk.putC {w : World} {q t : Nat} {s : Cl} {z z' : Z10} (h : Blk w q t (clV s z)) (hl : s.R.length = 32) (k : Nat) (v : Value) (hL : (clL z).set k v = clL z') : Blk (w.setCell ⟨q, 32 + k, none⟩ v) q t (clV s z') := by
  unfold Blk clV at *
  rw [← hL]
  have e : ((s.R.map B8 ++ clL z).toArray.setIfInBounds (32 + k) v) = (s.R.map B8 ++ (clL z).set k v).toArray := by
    rw [List.setIfInBounds_toArray]
    congr 1
    rw [List.set_append, if_neg (by simp [hl])]
    simp [hl]
  rw [← e]
  simp [World.setCell, Array.getElem?_modify, h]
theorem add_int (i : Nat) (h : i ≤ 4398046511104) : IntKind.i64.wrap ((i : Int) + 1) = ((i + 1 : Nat) : Int) := IntWalk.i64_in _ (by omega)

/-- What stays: the argument's block, the result's, the new Client's; its slices. -/
structure TJ (ta tb : Nat) (w : World) (M : Nat) (s : Cl) (z : Z10) (q : Nat) (y : Z10) (wx : World) : Prop where
  b1 : Blk wx w.heap.size ta (clV s z)
  rt : Blk wx (w.heap.size + 1) tb (clV clZ z10)
  b2 : Blk wx q tb (clV s y)
  i : IsCl wx (· < M) s z
  lo : Below w.heap.size w wx
  ne : w.heap.size + 1 < q
  lt : q < wx.heap.size
  hM : M ≤ w.heap.size
section
variable {ta tb : Nat} {w wx wy w1 w5 : World} {M q g : Nat} {s : Cl} {z y y' : Z10}
theorem TJ.only (h : TJ ta tb w M s z q y wx) (ho : Only (· = g) wx wy) (hg : q < g) : TJ ta tb w M s z q y wy :=
  have h1 := h.ne
  have h2 := h.hM
  ⟨h.b1.only ho (by omega), h.rt.only ho (by omega), h.b2.only ho (by omega), h.i.only ho (by intro k hk e; omega), below_only h.lo h.lo.size ho (by intro k hk e; omega), h.ne, Nat.lt_of_lt_of_le h.lt ho.size, h.hM⟩
theorem TJ.put (h : TJ ta tb w M s z q y wx) (k : Nat) (v : Value) (hL : (clL y).set k v = clL y') : TJ ta tb w M s z q y' (wx.setCell ⟨q, 32 + k, none⟩ v) :=
  have ho : Only (· = q) wx (wx.setCell ⟨q, 32 + k, none⟩ v) := (Only.refl (fun k => k = q) wx).setCell _ _ (.inl rfl)
  have h1 := h.ne
  have h2 := h.hM
  ⟨h.b1.only ho (by omega), h.rt.only ho (by omega), h.b2.putC h.i.len k v hL, h.i.only ho (by intro k hk e; omega), below_only h.lo h.lo.size ho (by intro k hk e; omega), h.ne, Nat.lt_of_lt_of_le h.lt ho.size, h.hM⟩
end
def FillR (w : World) (s : Cl) (z : Z10) (e : Ending) (w' : World) : Prop := ∃ p6 c6 p9 c9, e = .returned (.agg (clV s ((z.u6 p6 z.n6 c6).u9 p9 z.n9 c9))) ∧ IsCl w' (· < w'.heap.size) s ((z.u6 p6 z.n6 c6).u9 p9 z.n9 c9) ∧ Below w.heap.size w w'
end Go.Proofs.Ytegmimnhkohaoaa
