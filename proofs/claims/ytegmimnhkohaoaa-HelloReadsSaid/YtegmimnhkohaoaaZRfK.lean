/-
  The contracts of relayref08.ints and SameClient of two that are the same. No condition but the bound of their lengths.
-/
import Derived.Test.YtegmimnhkohaoaaZg10
import Derived.Test.YtegmimnhkohaoaaZHelZ
namespace Go.Proofs.Ytegmimnhkohaoaa
open Go.RowKit Go.Kx
set_option linter.unusedVariables false
set_option linter.unusedSimpArgs false
set_option maxRecDepth 100000

theorem blwN {N n : Nat} {a w : World} (h : Below N a w) : Below N a (w.drewN n) := ⟨h.os, h.tape, h.output, h.size, h.block⟩
def SameR (w : World) (e : Ending) (w' : World) : Prop := e = .returned (.bool true) ∧ Below w.heap.size w w'
set_option maxHeartbeats 4000000 in
theorem ints_c (S T : Nat → Prop) (p q : Option Addr) (n c k : Nat) (l : List Int) (w : World) (hS : RdI w S p l) (hT : RdI w T q l) (hn : l.length = n) (hl : n ≤ maxLen) : Calls Try.prog 64 #[.slice p n c, .slice q n k] w (SameR w) := by
  subst hn
  unfold maxLen at hl
  have HR := Lib.hid (And.intro hS hT)
  clear hS hT
  go_enter Try.func64, Try.ntmps64
  go_wp2
  go_loopw [5] (fun v5 wr => ∃ i : Nat, i ≤ l.length ∧ v5 = .int .i64 (i : Int) ∧ Below w.heap.size w wr) (fun v5 _ => l.length - (intOf v5).toNat)
  case atStart => exact ⟨0, Nat.zero_le _, rfl, Below.refl _ _⟩
  case round =>
    obtain ⟨i, hi, rfl, hB⟩ := hrel
    have HB := Lib.hid hB
    by_cases hlt : i < l.length
    · obtain ⟨g, o, rfl, -, hg, hc⟩ := RdI.at (show RdI wr S p l from RdV.below HR.out.1 hB) (by omega)
      obtain ⟨g', o', rfl, -, hg', hc'⟩ := RdI.at (show RdI wr T q l from RdV.below HR.out.2 hB) (by omega)
      have d1 := hc i hlt
      have d2 := hc' i hlt
      generalize l[i] = x at d1 d2
      have hi0 : (0 : Int) ≤ (i : Int) := by omega
      have hi1 : (i : Int) < (l.length : Int) := by omega
      have w1 : IntKind.i64.wrap ((i : Int) + 1) = ((i + 1 : Nat) : Int) := IntWalk.i64_in _ (by omega)
      have HW := Lib.hid w1
      have HLT := Lib.hid hlt
      clear hc hc' hB w1
      go_wp2_with fail
      go_quiet (fail)
      go_wp2
      go_roundw
      case rel => exact ⟨i + 1, by have := HLT.out; omega, by go_num, blwN HB.out⟩
      case measure => have := HLT.out; simp [intOf]; omega
    · obtain rfl : i = l.length := by omega
      clear hB
      go_wp2
      go_ret
      exact ⟨rfl, HB.out⟩
/-- Two Clients that are the same, in the blocks of SameClient's parameters. -/
structure SJ (w : World) (s : Cl) (za zb : Z10) (M : Nat) (wx : World) : Prop where
  a : Blk wx w.heap.size 48 (clV s za)
  b : Blk wx (w.heap.size + 1) 48 (clV s zb)
  ia : IsCl wx (fun k => k < M) s za
  ib : IsCl wx (fun k => k < M) s zb
  lo : Below w.heap.size w wx
theorem SJ.below {w wx wy : World} {s : Cl} {za zb : Z10} {M : Nat} (h : SJ w s za zb M wx) (hb : Below wx.heap.size wx wy) : SJ w s za zb M wy :=
  ⟨h.a.below hb, h.b.below hb, h.ia.below hb, h.ib.below hb, h.lo.trans (hb.mono h.lo.size)⟩

set_option maxHeartbeats 8000000 in
theorem sameClient_c (s : Cl) (za zb : Z10) (w : World) (ha : IsCl w (fun k => k < w.heap.size) s za) (hb : IsCl w (fun k => k < w.heap.size) s zb) (hib : s.ids.length = s.bnd.length) : Calls Try.prog 21 #[.agg (clV s za), .agg (clV s zb)] w (SameR w) := by
  have hlen := ha.len
  have hbA := Blk.new w 48 (clV s za)
  have hB1 : Below w.heap.size w (w.alloc (.cells (clV s za) 48)) := (Below.refl _ _).alloc (Nat.le_refl _) _
  have hz1 := World.size_alloc w (.cells (clV s za) 48)
  have hB2 : Below (w.alloc (.cells (clV s za) 48)).heap.size (w.alloc (.cells (clV s za) 48)) ((w.alloc (.cells (clV s za) 48)).alloc (.cells (clV s zb) 48)) := (Below.refl _ _).alloc (Nat.le_refl _) _
  have hbB := Blk.new (w.alloc (.cells (clV s za) 48)) 48 (clV s zb)
  rw [hz1] at hbB
  have hBB := hB1.trans (hB2.mono hB1.size)
  have hJ : SJ w s za zb w.heap.size ((w.alloc (.cells (clV s za) 48)).alloc (.cells (clV s zb) 48)) := ⟨hbA.below hB2, hbB, ha.below hBB, hb.below hBB, hBB⟩
  have hs := fun w => run_eq32 w 9998 s.R s.R hlen hlen
  have hself : (s.R == s.R) = true := by simp
  rw [hself] at hs
  have hg := Try.guard32
  have hu := Try.underlying22
  have hi : (Try.prog.info? 22).map (·.size) = some (s.R.map B8).length := by rw [List.length_map, hlen]; exact Try.infoB32
  have J := Lib.hid hJ
  have l2 := hb.s2.1
  have LL := Lib.hid (And.intro ha hb)
  clear hz1 hB1 hB2 hbA hbB hBB ha hb hself hJ l2
  go_enter Try.func21, Try.ntmps21
  go_upto_region 1 with (fail)
  generalize (w.alloc (.cells (clV s za) 48)).alloc (.cells (clV s zb) 48) = w2 at *
  apply wp_region_lit
  refine wpList_plain (o := ⟨some 7, _, _, _, _, _⟩) rfl (fun K hK => ?_)
  go_simp
  refine hK _ _ ?_
  clear hK K
  refine wpList_load_mid rfl 22 (.tmp 7) rfl w.heap.size 0 rfl (s.R.map B8) _ (J.out.a.crnd hlen) hu rfl hi ?_
  refine wpList_plain (o := ⟨some 9, _, _, _, _, _⟩) rfl (fun K hK => ?_)
  go_simp
  refine hK _ _ ?_
  clear hK K
  refine wpList_load_mid rfl 22 (.tmp 9) rfl (w.heap.size + 1) 0 rfl (s.R.map B8) _ (J.out.b.crnd hlen) hu rfl hi ?_
  have a32 := J.out.a.d32 hlen
  have b32 := J.out.b.d32 hlen
  have q1 := run_str (c := za.c1) J.out.ia.s1.2.1 J.out.ia.s1.1
  have q2 := run_str (c := zb.c1) J.out.ib.s1.2.1 J.out.ib.s1.1
  have a33 := J.out.a.d33 hlen
  have b33 := J.out.b.d33 hlen
  have hn2 : zb.n2 = za.n2 := J.out.ib.s2.1.symm.trans J.out.ia.s2.1
  go_wp2_with fail
  refine (ints_c _ _ za.p2 zb.p2 za.n2 za.c2 zb.c2 s.suites _ J.out.ia.s2.2.1 J.out.ib.s2.2.1 J.out.ia.s2.1 (Nat.le_trans J.out.ia.s2.2.2.2.1 J.out.ia.s2.2.2.2.2)).mono ?_
  rintro e w3 ⟨rfl, hb2⟩
  have J2 := Lib.hid (J.out.below hb2)
  clear hb2 a32 b32 q1 q2 a33 b33 hn2
  have a34 := J2.out.a.d34 hlen
  have b34 := J2.out.b.d34 hlen
  have hn3 : zb.n3 = za.n3 := J2.out.ib.s3.1.symm.trans J2.out.ia.s3.1
  go_wp2_with fail
  refine (ints_c _ _ za.p3 zb.p3 za.n3 za.c3 zb.c3 s.vers _ J2.out.ia.s3.2.1 J2.out.ib.s3.2.1 J2.out.ia.s3.1 (Nat.le_trans J2.out.ia.s3.2.2.2.1 J2.out.ia.s3.2.2.2.2)).mono ?_
  rintro e w4 ⟨rfl, hb3⟩
  have J3 := Lib.hid (J2.out.below hb3)
  clear hb3 a34 b34 hn3
  have a35 := J3.out.a.d35 hlen
  have b35 := J3.out.b.d35 hlen
  have hn4 : zb.n4 = za.n4 := J3.out.ib.s4.1.symm.trans J3.out.ia.s4.1
  go_wp2_with fail
  refine (ints_c _ _ za.p4 zb.p4 za.n4 za.c4 zb.c4 s.grps _ J3.out.ia.s4.2.1 J3.out.ib.s4.2.1 J3.out.ia.s4.1 (Nat.le_trans J3.out.ia.s4.2.2.2.1 J3.out.ia.s4.2.2.2.2)).mono ?_
  rintro e w5 ⟨rfl, hb4⟩
  have J4 := Lib.hid (J3.out.below hb4)
  clear hb4 a35 b35 hn4
  have a36 := J4.out.a.d36 hlen
  have b36 := J4.out.b.d36 hlen
  have hn5 : zb.n5 = za.n5 := J4.out.ib.s5.1.symm.trans J4.out.ia.s5.1
  go_wp2_with fail
  refine (ints_c _ _ za.p5 zb.p5 za.n5 za.c5 zb.c5 s.schs _ J4.out.ia.s5.2.1 J4.out.ib.s5.2.1 J4.out.ia.s5.1 (Nat.le_trans J4.out.ia.s5.2.2.2.1 J4.out.ia.s5.2.2.2.2)).mono ?_
  rintro e w6 ⟨rfl, hb5⟩
  have J5 := Lib.hid (J4.out.below hb5)
  clear hb5 a36 b36 hn5
  have a37 := J5.out.a.d37 hlen
  have b37 := J5.out.b.d37 hlen
  have a38 := J5.out.a.d38 hlen
  have b38 := J5.out.b.d38 hlen
  have a39 := J5.out.a.d39 hlen
  have b39 := J5.out.b.d39 hlen
  have a40 := J5.out.a.d40 hlen
  have b40 := J5.out.b.d40 hlen
  have a41 := J5.out.a.d41 hlen
  have b41 := J5.out.b.d41 hlen
  have hn6 : zb.n6 = za.n6 := J5.out.ib.s6.1.symm.trans J5.out.ia.s6.1
  have hn9 : zb.n9 = za.n9 := J5.out.ib.s9.1.symm.trans J5.out.ia.s9.1
  have hn10 : zb.n10 = za.n10 := J5.out.ib.s10.1.symm.trans J5.out.ia.s10.1
  have q3 := run_str (c := za.c7) J5.out.ia.s7.2.1 J5.out.ia.s7.1
  have q4 := run_str (c := zb.c7) J5.out.ib.s7.2.1 J5.out.ib.s7.1
  have q5 := run_str (c := za.c8) J5.out.ia.s8.2.1 J5.out.ia.s8.1
  have q6 := run_str (c := zb.c8) J5.out.ib.s8.2.1 J5.out.ib.s8.1
  clear hs hg hu hi
  have hm6 : za.n6 ≤ maxLen := Nat.le_trans J5.out.ia.s6.2.2.2.1 J5.out.ia.s6.2.2.2.2
  have hm9 : za.n9 ≤ maxLen := Nat.le_trans J5.out.ia.s9.2.2.2.1 J5.out.ia.s9.2.2.2.2
  unfold maxLen at hm6 hm9
  have hi6 := J5.out.ia.s6.1
  have hi9 := J5.out.ia.s9.1
  have hi10 := J5.out.ia.s10.1
  have HNN := Lib.hid (And.intro hn6 (And.intro hn9 (And.intro hn10 (And.intro hi6 (And.intro hi9 hi10)))))
  clear hi6 hi9 hi10
  go_upto_region 4 with (fail)
  clear hn6 hn9 hn10 q3 q4 q5 q6 a37 b37 a38 b38 a39 b39 a40 b40 a41 b41
  go_loopw [5] (fun v5 wr => ∃ i : Nat, i ≤ za.n6 ∧ v5 = .int .i64 (i : Int) ∧ SJ w s za zb w.heap.size wr) (fun v5 _ => za.n6 - (intOf v5).toNat)
  case atStart => exact ⟨0, Nat.zero_le _, rfl, J5.out⟩
  case round =>
    obtain ⟨i, hi, rfl, hJ⟩ := hrel
    have JR := Lib.hid hJ
    have a37 := hJ.a.d37 hlen
    have b37 := hJ.b.d37 hlen
    clear hJ
    by_cases hlt : i < za.n6
    · have hls : i < s.shs.length := by rw [HNN.out.2.2.2.1]; exact hlt
      obtain ⟨gs, o, a, m, kc, hp, -, hc, hd, hl, hrd, hnl⟩ := JR.out.ia.s6.2.1 i hls
      obtain ⟨gs', o', a', m', kc', hp', -, hc', hd', hl', hrd', hnl'⟩ := JR.out.ib.s6.2.1 i hls
      have q7 := fun n => run_str (w := wr.drewN n) (c := kc) (hrd.only (Only.drewN n (Only.refl (fun _ => False) wr)) (fun _ _ h => h)) hl
      have q8 := fun n => run_str (w := wr.drewN n) (c := kc') (hrd'.only (Only.drewN n (Only.refl (fun _ => False) wr)) (fun _ _ h => h)) hl'
      have hnb : (i : Int) < (zb.n6 : Int) := by rw [HNN.out.1]; omega
      have hna : (i : Int) < (za.n6 : Int) := by omega
      have hi0 : (0 : Int) ≤ (i : Int) := by omega
      generalize s.shs[i] = x at hc hl hrd q7 hc' hl' hrd' q8
      have HLT := Lib.hid hlt
      rw [hp] at a37
      rw [hp'] at b37
      clear hp hp' hl hl' hrd hrd' hnl hnl' hls
      go_wp2_with fail
      go_quiet (fail)
      go_wp2
      go_roundw
      case rel => exact ⟨i + 1, by have := HLT.out; omega, by go_num, JR.out.below (blwN (Below.refl _ _))⟩
      case measure => have := HLT.out; simp [intOf]; omega
    · obtain rfl : i = za.n6 := by omega
      go_upto_region 9 with (fail)
      clear a37 b37
      obtain ⟨W9, hW9⟩ : ∃ W9 : World, W9 = wr := ⟨_, rfl⟩
      rw [← hW9] at JR ⊢
      clear hW9
      go_loopw [6] (fun v6 wr => ∃ i : Nat, i ≤ za.n9 ∧ v6 = .int .i64 (i : Int) ∧ SJ w s za zb w.heap.size wr) (fun v6 _ => za.n9 - (intOf v6).toNat)
      case atStart => exact ⟨0, Nat.zero_le _, rfl, JR.out⟩
      case round =>
        obtain ⟨i, hi, rfl, hJ⟩ := hrel
        have JS := Lib.hid hJ
        have a40 := hJ.a.d40 hlen
        have b40 := hJ.b.d40 hlen
        have a41 := hJ.a.d41 hlen
        have b41 := hJ.b.d41 hlen
        clear hJ
        by_cases hlt : i < za.n9
        · have hls : i < s.ids.length := by rw [HNN.out.2.2.2.2.1]; exact hlt
          have hlb : i < s.bnd.length := by rw [← hib]; exact hls
          obtain ⟨gs, o, a, m, kc, hp, -, hc, hd, hl, hrd, hnl⟩ := JS.out.ia.s9.2.1 i hls
          obtain ⟨gs', o', a', m', kc', hp', -, hc', hd', hl', hrd', hnl'⟩ := JS.out.ib.s9.2.1 i hls
          obtain ⟨gt, ot, at2, mt, kt, hpt, -, hct, hlt2, hrdt, hnlt⟩ := JS.out.ia.s10.2.1 i hlb
          obtain ⟨gt', ot', at2', mt', kt', hpt', -, hct', hlt2', hrdt', hnlt'⟩ := JS.out.ib.s10.2.1 i hlb
          have q7 := fun n => run_str (w := wr.drewN n) (c := kc) (hrd.only (Only.drewN n (Only.refl (fun _ => False) wr)) (fun _ _ h => h)) hl
          have q8 := fun n => run_str (w := wr.drewN n) (c := kc') (hrd'.only (Only.drewN n (Only.refl (fun _ => False) wr)) (fun _ _ h => h)) hl'
          have q9 := fun n => run_str (w := wr.drewN n) (c := kt) (hrdt.only (Only.drewN n (Only.refl (fun _ => False) wr)) (fun _ _ h => h)) hlt2
          have q10 := fun n => run_str (w := wr.drewN n) (c := kt') (hrdt'.only (Only.drewN n (Only.refl (fun _ => False) wr)) (fun _ _ h => h)) hlt2'
          have hnb : (i : Int) < (zb.n9 : Int) := by rw [HNN.out.2.1]; omega
          have hna : (i : Int) < (za.n9 : Int) := by omega
          have hi10 := HNN.out.2.2.2.2.2
          have hj10 := HNN.out.2.2.1
          have hma : (i : Int) < (za.n10 : Int) := by omega
          have hmb : (i : Int) < (zb.n10 : Int) := by omega
          have hi0 : (0 : Int) ≤ (i : Int) := by omega
          clear hi10 hj10
          generalize s.ids[i] = x at hc hd hl hrd q7 hc' hd' hl' hrd' q8
          generalize s.bnd[i] = y at hlt2 hrdt q9 hlt2' hrdt' q10
          have HLT := Lib.hid hlt
          rw [hp] at a40
          rw [hp'] at b40
          rw [hpt] at a41
          rw [hpt'] at b41
          clear hp hp' hpt hpt' hl hl' hrd hrd' hnl hnl' hls hlb hlt2 hlt2' hrdt hrdt' hnlt hnlt'
          go_wp2_with fail
          go_quiet (fail)
          go_wp2
          go_roundw
          case rel => exact ⟨i + 1, by have := HLT.out; omega, by go_num, JS.out.below (blwN (Below.refl _ _))⟩
          case measure => have := HLT.out; simp [intOf]; omega
        · obtain rfl : i = za.n9 := by omega
          go_wp2
          go_ret
          exact ⟨rfl, JS.out.lo⟩
end Go.Proofs.Ytegmimnhkohaoaa
