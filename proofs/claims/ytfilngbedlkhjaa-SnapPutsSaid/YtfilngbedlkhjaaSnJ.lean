/-
  relayref18.Same of two that are the same; snap.Upgrade; the law's own snaps. Conditions: those of each theorem.
-/
import Derived.Test.YtfilngbedlkhjaaSnI
namespace Go.Kx
open Go.RowKit
theorem wpList_load_any {P : Program} {ops : Array Oper} {rest : List Oper} {op : Oper} {a : Act} {w : World} {Q : Exit → Act → World → Prop} (hw : Region.wanted op (yielded ops a.tmps) = true) (ty : TypeId) (x : Operand) (ho : op.op = .load ty x)
    (b o : Nat) (hx : a.eval x = .pointer (some ⟨b, o, none⟩)) (cs : List Value) (d : TypeDesc) (hc : w.rangeAt b o cs)
    (hu : P.underlying ty = some d) (hd : d.isRow = true) (hi : (P.info? ty).map (·.size) = some cs.length)
    (h : wpList P ops Q rest (a.put op.dst (.agg cs.toArray)) w) : wpList P ops Q (op :: rest) a w :=
  wpList_step fun _ hK => by rw [if_pos hw]; exact wp_load_mid ty x ho b o hx cs d hc hu hd hi (hK _ _ h)
end Go.Kx
namespace Go.Proofs.Ytfilngbedlkhjaa
open Go.RowKit Go.Kx
set_option linter.unusedVariables false
set_option linter.unusedSimpArgs false

theorem sums_range {w : World} {r : Nat} {t : TypeId} {C : Array Value} {ph : Int} {lg : Value} {sm : List UInt8} {a b c d : Int} {sl : Bool} {pt us : Value} {al : Int} (hb : w.heap[r]? = some (.cells C t (0, 0))) (h : StC C ph lg sm a b c d sl pt us al) : w.rangeAt r 2 (sm.map B8) := by
  intro j v hv
  simp only [List.getElem?_map, Option.map_eq_some_iff] at hv
  obtain ⟨x, hx, rfl⟩ := hv
  obtain ⟨hj, rfl⟩ := List.getElem?_eq_some_iff.1 hx
  rw [StB.cellC hb]
  exact h.es j hj
theorem run_sizeOf32 (w : World) : (sizeOf 23).run Try.prog w = .ok 32 w := by
  have h := Try.info32
  cases hq : Try.prog.info? 23 with
  | none => simp [hq] at h
  | some i =>
    have h2 : i.size = 32 := by simpa [hq] using h
    simp [sizeOf, typeInfo, hq, h2]
theorem run_sizeOf1 (w : World) : (sizeOf 5).run Try.prog w = .ok 1 w := by
  have h : (Try.prog.info? 5).map (·.size) = some 1 := by kernel_rfl
  cases hq : Try.prog.info? 5 with
  | none => simp [hq] at h
  | some i =>
    have h2 : i.size = 1 := by simpa [hq] using h
    simp [sizeOf, typeInfo, hq, h2]
/-- Seven sums are themselves. -/
theorem run_same_sums (w : World) (sm : List UInt8) (hl : sm.length = 224) : (Op.equalIn 10000 24 (.agg (sm.map B8).toArray) (.agg (sm.map B8).toArray)).run Try.prog w = .ok true w := by
  refine equal_array w 9999 24 23 7 32 Try.underlying24 run_sizeOf32 _ (fun i hi => ?_)
  refine ⟨.agg (((sm.drop (32 * i)).take 32).map Extern.Stop.cell).toArray, ?_, ?_⟩
  · have he : (((sm.map B8).toArray.extract (i * 32) (i * 32 + 32))) = (((sm.drop (32 * i)).take 32).map Extern.Stop.cell).toArray := by
      apply Array.ext_getElem?
      intro j
      rw [Array.getElem?_extract]
      simp only [List.getElem?_toArray, List.getElem?_map, List.size_toArray, List.length_map, List.getElem?_take, List.getElem?_drop]
      by_cases hj : j < 32
      · rw [if_pos (by omega), if_pos hj, show i * 32 + j = 32 * i + j by omega]
        rfl
      · rw [if_neg (by omega), if_neg hj]
        rfl
    simp [part, isAgg, run_underlying Try.underlying23, run_sizeOf32]
    rw [Nat.mul_comm i 32]
    rfl
  · have hlen : ((sm.drop (32 * i)).take 32).length = 32 := by rw [List.length_take, List.length_drop]; omega
    rw [run_equalIn_bytes w 9997 23 5 32 Try.underlying23 Try.underlying5 run_sizeOf1 _ _ hlen hlen]
    simp
theorem Try.guard24 : Try.prog.eqGuardType Try.prog.depth 24 = false := by kernel_rfl

set_option maxHeartbeats 4000000 in
set_option maxRecDepth 100000 in
theorem same_c (s : St) (A B : Array Value) (w : World) (hA : IsSt w A s) (hB : IsSt w B s) : Calls Try.prog 14 #[.agg A, .agg B] w fun e w' => e = .returned (.bool true) ∧ Below w.heap.size w w' := by
  obtain ⟨lg, pt, us, hC, ⟨p1, n1, c1, rfl, l1, R1, -⟩, ⟨p2, n2, c2, rfl, l2, R2, -⟩, ⟨p3, n3, c3, rfl, l3, R3, -⟩⟩ := hA
  obtain ⟨lg', pt', us', hC', ⟨q1, m1, d1, rfl, l1', R1', -⟩, ⟨q2, m2, d2, rfl, l2', R2', -⟩, ⟨q3, m3, d3, rfl, l3', R3', -⟩⟩ := hB
  have hBel : Below w.heap.size w ((w.alloc (.cells A 26)).alloc (.cells B 26)) := ((Below.refl _ _).alloc (Nat.le_refl _) _).alloc (by simp) _
  have hb1 : ((w.alloc (.cells A 26)).alloc (.cells B 26)).heap[w.heap.size]? = some (.cells A 26 (0, 0)) := by
    rw [heap_alloc_old _ _ (by simp)]
    exact heap_alloc_new w _
  have hb2 : ((w.alloc (.cells A 26)).alloc (.cells B 26)).heap[w.heap.size + 1]? = some (.cells B 26 (0, 0)) := by
    have := heap_alloc_new (w.alloc (.cells A 26)) (.cells B 26)
    rwa [World.size_alloc] at this
  obtain ⟨e0, e1, e2, e3, e4, e5, e6, e7, e8, e9⟩ := blk_cells hb1 hC
  obtain ⟨f0, f1, f2, f3, f4, f5, f6, f7, f8, f9⟩ := blk_cells hb2 hC'
  have t1 := run_str (c := c1) (R1.below hBel) l1
  have t2 := run_str (c := c2) (R2.below hBel) l2
  have t3 := run_str (c := c3) (R3.below hBel) l3
  have u1 := run_str (c := d1) (R1'.below hBel) l1'
  have u2 := run_str (c := d2) (R2'.below hBel) l2'
  have u3 := run_str (c := d3) (R3'.below hBel) l3'
  have hsl := hC.len
  obtain ⟨sm, hsm⟩ : ∃ sm, sm = (s.sm.map B8).toArray := ⟨_, rfl⟩
  have hs := fun w => run_same_sums w s.sm hsl
  rw [← hsm] at hs
  have HR := Lib.hid (And.intro (And.intro (sums_range hb1 hC) (sums_range hb2 hC')) (And.intro hsl (And.intro hsm hBel)))
  have hg := Try.guard24
  clear hb1 hb2 hC hC' l1 l2 l3 l1' l2' l3' R1 R2 R3 R1' R2' R3' hsl hsm hBel
  go_enter Try.func14, Try.ntmps14
  go_wp2_with fail
  refine wpList_load_any (by rfl) 24 (.tmp 20) rfl w.heap.size 2 rfl (s.sm.map B8) _ HR.out.1.1 Try.underlying24 rfl (by rw [List.length_map, HR.out.2.1]; exact Try.info224) ?_
  rw [← HR.out.2.2.1]
  go_wp2_with fail
  refine wpList_load_any (by rfl) 24 (.tmp 22) rfl (w.heap.size + 1) 2 rfl (s.sm.map B8) _ HR.out.1.2 Try.underlying24 rfl (by rw [List.length_map, HR.out.2.1]; exact Try.info224) ?_
  rw [← HR.out.2.2.1]
  go_wp2
  go_ret
  exact ⟨rfl, HR.out.2.2.2⟩

theorem IsSt.sz {w : World} {C : Array Value} {s : St} (h : IsSt w C s) : C.size = 234 := by obtain ⟨_, _, _, hC, _⟩ := h; exact hC.size
theorem IsSt.len {w : World} {C : Array Value} {s : St} (h : IsSt w C s) : s.sm.length = 224 := by obtain ⟨_, _, _, hC, _⟩ := h; exact hC.len
theorem IsSt.one {w : World} {C : Array Value} {s : St} (h : IsSt w C s) : C.all (·.oneCell') = true := by
  obtain ⟨_, _, _, hC, ⟨_, _, _, rfl, _⟩, ⟨_, _, _, rfl, _⟩, ⟨_, _, _, rfl, _⟩⟩ := h
  exact hC.one rfl rfl rfl
/-- A State that was told lies in a variable of the caller's. -/
theorem stored {w : World} {C : Array Value} {s : St} {t : TypeId} (h : IsSt w C s) : ((w.alloc (.cells zC t)).setRow w.heap.size C).rangeAt w.heap.size 0 C.toList ∧ IsSt ((w.alloc (.cells zC t)).setRow w.heap.size C) C s ∧ Below w.heap.size w ((w.alloc (.cells zC t)).setRow w.heap.size C) := by
  have hb : Below w.heap.size w ((w.alloc (.cells zC t)).setRow w.heap.size C) := below_only ((Below.refl _ w).alloc (Nat.le_refl _) _) (by simp) (only_setRow (q := fun k => k = w.heap.size) _ _ _ rfl) (by intro k hk e; omega)
  exact ⟨blk_range (setRow_heap _ _ zC C _ _ (heap_alloc_new w _)), h.below hb, hb⟩

/-- Upgrade of bytes that are a State's: those of the newest version. -/
theorem up_yes (S : Nat → Prop) (p : Option Addr) (n c : Nat) (L : List UInt8) (s : St) (w : World) (hR : Rd w S p L) (hp : p = none → c = 0) (hl : L.length ≤ 140737488355328) (hn : L.length = n) (hs : okS s)
    (hg : ∀ ver sealed s' y, Go1 L ver s' sealed y → getE s' sealed y = 0 ∧ s' = s) :
    Calls Try.prog 13 #[.slice p n c] w (SPutYes w (snB s 3)) := by
  have hz := run_zeroS
  have HG := Lib.hid hg
  have HS := Lib.hid hs
  clear hg hs
  go_enter Try.func13, Try.ntmps13
  go_wp2_with (first
    | (go_at_call 10; refine (get_c S p n c L _ hR hp hl hn).mono ?_; rintro e w1 ⟨ver, sealed, s', y, C, v, h1, h2, rfl, h3, h4, h5⟩; obtain ⟨g1, rfl⟩ := HG.out ver sealed s' y h1; rw [g1] at h3 h4 ⊢; have HB := Lib.hid (And.intro (stored (t := 35) h4) (And.intro h4.sz (And.intro h4.one h5))); clear h1 h2 h3 h4 h5 g1)
    | (refine wpList_store_row rfl 35 (.tmp 4) (.tmp 10) rfl w1.heap.size C rfl rfl 35 zC (heap_alloc_new w1 _) (by rw [HB.out.2.1]; exact Try.infoS) (by rw [HB.out.2.1, zC_size]) HB.out.2.2.1 ?_)
    | (refine wpList_load_mid rfl 35 (.tmp 4) rfl w1.heap.size 0 rfl C.toList _ HB.out.1.1 Try.underlying35 rfl (by rw [Array.length_toList, HB.out.2.1]; exact Try.infoS) ?_; rw [Array.toArray_toList])
    | (go_at_call 8; refine (sput_yes s' C 3 _ HB.out.1.2.1 HS.out (by omega)).mono ?_; rintro e w2 ⟨g, n2, c2, rfl, k1, k2, k3, k4, k5, k6, k7⟩))
  go_ret2
  have hb := HB.out.2.2.2.trans (HB.out.1.2.2.mono HB.out.2.2.2.size)
  exact ⟨g, n2, c2, rfl, k1, Nat.le_trans hb.size k2, k3, k4, k5, k6, hb.trans (k7.mono hb.size)⟩

/-- Upgrade of bytes that are none's. -/
theorem up_no (S : Nat → Prop) (p : Option Addr) (n c : Nat) (L : List UInt8) (er : Int) (w : World) (hR : Rd w S p L) (hp : p = none → c = 0) (hl : L.length ≤ 140737488355328) (hn : L.length = n) (he : er ≠ 0)
    (hg : ∀ ver sealed s' y, Go1 L ver s' sealed y → getE s' sealed y = er) :
    Calls Try.prog 13 #[.slice p n c] w fun e w' => e = .returned (.tuple #[.slice none 0 0, .int .i64 er]) ∧ Below w.heap.size w w' := by
  have hz := run_zeroS
  have HG := Lib.hid hg
  have hb : (er != 0) = true := by simpa using he
  clear hg
  go_enter Try.func13, Try.ntmps13
  go_wp2_with (first
    | (go_at_call 10; refine (get_c S p n c L _ hR hp hl hn).mono ?_; rintro e w1 ⟨ver, sealed, s', y, C, v, h1, h2, rfl, h3, h4, h5⟩; have g1 := HG.out ver sealed s' y h1; rw [g1] at h3 h4 ⊢; have HB := Lib.hid (And.intro (stored (t := 35) h4) (And.intro h4.sz (And.intro h4.one h5))); clear h1 h2 h3 h4 h5 g1)
    | (refine wpList_store_row rfl 35 (.tmp 4) (.tmp 10) rfl w1.heap.size C rfl rfl 35 zC (heap_alloc_new w1 _) (by rw [HB.out.2.1]; exact Try.infoS) (by rw [HB.out.2.1, zC_size]) HB.out.2.2.1 ?_))
  go_ret2
  exact ⟨rfl, HB.out.2.2.2.trans (HB.out.1.2.2.mono HB.out.2.2.2.size)⟩
end Go.Proofs.Ytfilngbedlkhjaa
