/-
  The contract of relaylaw08.From: a Client of hello as one of the document. Condition: at most 2^42 shares and tickets.
-/
import Derived.Test.YtegmimnhkohaoaaZg8
namespace Go.Proofs.Ytegmimnhkohaoaa
open Go.RowKit Go.Kx
set_option linter.unusedVariables false
set_option linter.unusedSimpArgs false
set_option maxRecDepth 100000

theorem builtRc (s : Cl) (z : Z10) (h : s.R.length = 32) : Try.prog.built 48 [(0, .agg (s.R.map B8).toArray), (1, .slice z.p1 z.n1 z.c1), (2, .slice z.p2 z.n2 z.c2), (3, .slice z.p3 z.n3 z.c3), (4, .slice z.p4 z.n4 z.c4), (5, .slice z.p5 z.n5 z.c5), (7, .slice z.p7 z.n7 z.c7), (8, .slice z.p8 z.n8 z.c8), (10, .slice z.p10 z.n10 z.c10)] = some (clV s ((z.u6 none 0 0).u9 none 0 0)) := by
  obtain ⟨r0, r1, r2, r3, r4, r5, r6, r7, r8, r9, r10, r11, r12, r13, r14, r15, r16, r17, r18, r19, r20, r21, r22, r23, r24, r25, r26, r27, r28, r29, r30, r31, hR⟩ := list32 s.R h
  unfold clV clL
  rw [hR]
  kernel_rfl

set_option maxHeartbeats 8000000 in
theorem from_cl (s : Cl) (z : Z10) (M : Nat) (w : World) (hI : IsCl w (· < M) s z) (hM : M ≤ w.heap.size) (h6 : z.n6 ≤ 4398046511103) (h9 : z.n9 ≤ 4398046511103) :
    Calls Try.prog 22 #[.agg (clV s z)] w (FillR w s z) := by
  have h := hI.len
  have hB := Blk.new w 56 (clV s z)
  have hb0 : Below w.heap.size w (w.alloc (.cells (clV s z) 56)) := (Below.refl _ _).alloc (Nat.le_refl _) _
  have hb1 := Blk.new (w.alloc (.cells (clV s z) 56)) 48 (clV clZ z10)
  rw [World.size_alloc] at hb1
  have hbb : Below w.heap.size w ((w.alloc (.cells (clV s z) 56)).alloc (.cells (clV clZ z10) 48)) := hb0.alloc hb0.size _
  have hB1 := hB.below (w' := (w.alloc (.cells (clV s z) 56)).alloc (.cells (clV clZ z10) 48)) ((Below.refl _ _).alloc (Nat.le_refl _) _)
  have hz := run_zeroRc
  have hs2 : ((w.alloc (.cells (clV s z) 56)).alloc (.cells (clV clZ z10) 48)).heap.size = w.heap.size + 2 := by rw [World.size_alloc, World.size_alloc]
  have c32 := hB1.d32 h
  have c33 := hB1.d33 h
  have c34 := hB1.d34 h
  have c35 := hB1.d35 h
  have c36 := hB1.d36 h
  have c38 := hB1.d38 h
  have c39 := hB1.d39 h
  have c41 := hB1.d41 h
  have H := Lib.hid (And.intro hB1 (And.intro hb1 (And.intro hbb hs2)))
  clear hB hb0 hb1 hbb hB1 hs2
  go_enter Try.func22, Try.ntmps22
  go_upto_region 1 with (fail)
  generalize (w.alloc (.cells (clV s z) 56)).alloc (.cells (clV clZ z10) 48) = w0 at *
  go_upto_region 2 with (first
    | (refine wpList_load_mid rfl 22 (.tmp 6) rfl w.heap.size 0 rfl (s.R.map B8) _ (H.out.1.crnd h) Try.underlying22 rfl (by rw [List.length_map, h]; exact Try.infoB32) ?_)
    | (refine wpList_build_eq (l := [(0, .agg (s.R.map B8).toArray), (1, .slice z.p1 z.n1 z.c1), (2, .slice z.p2 z.n2 z.c2), (3, .slice z.p3 z.n3 z.c3), (4, .slice z.p4 z.n4 z.c4), (5, .slice z.p5 z.n5 z.c5), (7, .slice z.p7 z.n7 z.c7), (8, .slice z.p8 z.n8 z.c8), (10, .slice z.p10 z.n10 z.c10)]) rfl 48 _ rfl (by simp [Act.eval, Act.put]) (builtRc s z h) ?_)
    | (refine st_blk rfl 48 (.tmp 3) (.tmp 24) rfl w0.heap.size (clV s ((z.u6 none 0 0).u9 none 0 0)) rfl rfl 48 (clV clZ z10) (Blk.new w0 _ _) (by rw [clV_size _ _ h]; exact Try.infoRc) (by rw [clV_size _ _ rfl, clV_size _ _ h]) (clV_ones _ _) ?_; intro w5 hb5 ho5; have H5 := Lib.hid (And.intro hb5 ho5); clear hb5 ho5))
  have hJ5 : TJ 56 48 w M s z w0.heap.size ((z.u6 none 0 0).u9 none 0 0) w5 := by
    have hs2 := H.out.2.2.2
    have hba : Below w0.heap.size w0 (w0.alloc (.cells (clV clZ z10) 48)) := (Below.refl _ _).alloc (Nat.le_refl _) _
    have hbl : Below w.heap.size w (w0.alloc (.cells (clV clZ z10) 48)) := H.out.2.2.1.alloc H.out.2.2.1.size _
    have h5s := H5.out.2.size
    rw [World.size_alloc] at h5s
    exact ⟨(H.out.1.below hba).only H5.out.2 (by omega), (H.out.2.1.below hba).only H5.out.2 (by omega), H5.out.1, (hI.below hbl).only H5.out.2 (by intro k hk e; omega), below_only hbl hbl.size H5.out.2 (by intro k hk e; omega), by omega, by omega, hM⟩
  have J5 := Lib.hid hJ5
  have hq := hJ5.ne
  clear hJ5 c32 c33 c34 c35 c36 c38 c39 c41 hz hI H5
  obtain ⟨q, hq0⟩ : ∃ q, q = w0.heap.size := ⟨_, rfl⟩
  rw [← hq0] at hq J5 ⊢
  clear hq0
  go_upto_region 3 with (fail)
  go_loopw [4] (fun v4 wr => ∃ (i : Nat) (p : Option Addr) (c g : Nat) (L : List Value), i ≤ z.n6 ∧ v4 = .int .i64 (i : Int) ∧ TJ 56 48 w M s z q ((z.u6 p i c).u9 none 0 0) wr ∧ Row wr 25 2 g (.slice p i c) i L ∧ ShL wr (· < M) L (s.shs.take i) ∧ q < g) (fun v4 _ => z.n6 - (intOf v4).toNat)
  case atStart => exact ⟨0, none, 0, q + 1, [], Nat.zero_le _, rfl, J5.out, ⟨World.ownsRow_nil _ _ _ _, .inl rfl⟩, ShL.nil _ _, by omega⟩
  case round =>
    obtain ⟨i, p, c, g, L, hi, rfl, hJ, hR, hL, hqg⟩ := hrel
    have c37 := hJ.b1.d37 h
    have d37 : wr.cell? ⟨q, 37, none⟩ = some (.slice p i c) := hJ.b2.d37 h
    have I := Lib.hid (And.intro hJ (And.intro hR hL))
    clear hJ hR hL
    by_cases hlt : i < z.n6
    · have HLT := Lib.hid hlt
      have hsl : s.shs.length = z.n6 := I.out.1.i.s6.1
      obtain ⟨gs, o, a, m, kc, hp, hS, hc, hd, hl, hrd, hnl⟩ := I.out.1.i.s6.2.1 i (by rw [hsl]; exact hlt)
      have hts : s.shs.take (i + 1) = s.shs.take i ++ [s.shs[i]'(by rw [hsl]; exact hlt)] := List.take_succ_eq_append_getElem (by rw [hsl]; exact hlt)
      obtain ⟨v, hv⟩ : ∃ v, v = s.shs[i]'(by rw [hsl]; exact hlt) := ⟨_, rfl⟩
      rw [← hv] at hts hl hrd hc
      obtain ⟨gr, ke⟩ := v
      simp only at hl hrd hc
      have HT := Lib.hid (And.intro hts (And.intro hl (And.intro hrd hnl)))
      have hgs := World.block_lt_of_cell? wr _ hc
      have hqw := I.out.1.lt
      have fq := I.out.1.b2.fr 37
      have hsm : IntKind.i64.wrap ((i : Int) + 1) = ((i + 1 : Nat) : Int) := add_int i (by omega)
      have HSM := Lib.hid hsm
      have hba : Below wr.heap.size wr (wr.alloc (.cells #[.int .i64 gr, .slice a m kc] 25)) := (Below.refl _ _).alloc (Nat.le_refl _) _
      have ca : (wr.alloc (.cells #[.int .i64 gr, .slice a m kc] 25)).cell? ⟨q, 37, none⟩ = some (.slice p i c) := (I.out.1.b2.below hba).d37 h
      have HBA := Lib.hid hba.drew
      have hpi : (i : Int) < (z.n6 : Int) := by omega
      have hpz : (0 : Int) ≤ (i : Int) := by omega
      rw [hp] at c37
      clear hts hv hl hrd hnl hp hS hsl hba hsm
      go_wp2_with fail
      go_region_law ((refine step_append_row rfl _ _ 44 rfl 25 (.agg #[.int .i64 0, .slice none 0 0]) 2 32 Try.underlying44 Try.infoShR rfl (by decide) g (.slice p i c) i L (by simp [Act.eval, Act.put]) (Row.only I.out.2.1 (Only.of_below (r := fun _ => False) HBA.out) (fun h => h)) ⟨wr.heap.size, 0, none⟩ 1 1 [.int .i64 gr, .slice a m kc] (by simp [Act.eval, Act.put]) rfl (cell_two wr _ _ _) (by simp [Value.oneCell']) (by simp only [maxLen]; omega) (by omega) (wr.heap.size + 1) (by simp) ?_; intro g2 v2 w5 hrow hg2 hO5q; have hO5 : Only (· = g) wr w5 := (Only.of_below (r := fun k => k = g) HBA.out).then hO5q; have hJ5 := I.out.1.only hO5 hqg; have c5 := hJ5.b2.d37 h; have f5 := hJ5.b2.fr 37; obtain ⟨p5, k5, rfl, -⟩ := Row.form hrow; have H5 := Lib.hid (And.intro hrow (And.intro hO5 hJ5)); clear hrow hO5q hO5 hJ5))
      all_goals
        have hJ6 := H5.out.2.2.put 5 (.slice p5 (i + 1) k5) (y' := (z.u6 p5 (i + 1) k5).u9 none 0 0) rfl
        have ho6 : Only (fun k => k = q) w5 (w5.setCell ⟨q, 37, none⟩ (.slice p5 (i + 1) k5)) := (Only.refl (fun k => k = q) w5).setCell _ _ (.inl rfl)
        have hg26 : q < g2 := by rcases hg2 with h | h <;> omega
        have hq0 := I.out.1.ne
        have hR6 := Row.only H5.out.1 ho6 (by omega)
        have hL6 : ShL (w5.setCell ⟨q, 37, none⟩ (.slice p5 (i + 1) k5)) (· < M) (L ++ [.int .i64 gr, .slice a m kc]) (s.shs.take (i + 1)) := by
          rw [HT.out.1]
          refine ShL.only ?_ ho6 (by intro k hk e; omega)
          refine ShL.only ?_ H5.out.2.1 (by intro k hk e; omega)
          exact I.out.2.2.push (gr, ke) a m kc HT.out.2.1 HT.out.2.2.1 HT.out.2.2.2
        have H7 := Lib.hid (And.intro hJ6 (And.intro hR6 hL6))
        clear hJ6 ho6 hR6 hL6
        go_wp2
        go_roundw
        case rel => exact ⟨i + 1, p5, k5, g2, _, by have := HLT.out; omega, by go_num, H7.out.1, H7.out.2.1, H7.out.2.2, hg26⟩
        case measure => have := HLT.out; simp [intOf]; omega
    · obtain rfl : i = z.n6 := by omega
      have hI2 := I.out.1.i
      have hsl : s.shs.length = z.n6 := hI2.s6.1
      have htk : s.shs.take z.n6 = s.shs := by rw [← hsl]; exact List.take_length
      obtain ⟨p6, c6, he6, hat6, hn6, hc6, hm6⟩ := (by have h := I.out.2.2; rw [htk] at h; exact h : ShL wr (· < M) L s.shs).at (by rw [hsl]; exact I.out.2.1)
      rw [hsl] at he6 hc6
      obtain rfl : p6 = p := by cases he6; rfl
      obtain rfl : c6 = c := by cases he6; rfl
      clear he6
      have h6lt := (by
        by_cases h0 : 0 < z.n6
        · obtain ⟨_, _, _, hf, _⟩ := Row.form I.out.2.1
          exact .inr (hf h0).2
        · exact .inl (by omega) : z.n6 = 0 ∨ g < wr.heap.size)
      have K := Lib.hid (And.intro hsl (And.intro hat6 (And.intro hn6 (And.intro hc6 hm6))))
      have hwq := I.out.1.lt
      clear hI2 hsl htk hat6 hn6 hc6 hm6
      go_upto_region 7 with (fail)
      obtain ⟨W7, hW7⟩ : ∃ W7 : World, W7 = wr := ⟨_, rfl⟩
      rw [hW7.symm] at I K h6lt hwq ⊢
      have J7 := Lib.hid I.out.1
      clear hW7 I
      go_loopw [5] (fun v5 wr => ∃ (i : Nat) (p : Option Addr) (c g' : Nat) (L : List Value), i ≤ z.n9 ∧ v5 = .int .i64 (i : Int) ∧ TJ 56 48 w M s z q ((z.u6 p6 z.n6 c6).u9 p i c) wr ∧ Row wr 51 2 g' (.slice p i c) i L ∧ IdL wr (· < M) L (s.ids.take i) ∧ W7.heap.size ≤ g' ∧ Only (fun k => k = q) W7 wr) (fun v5 _ => z.n9 - (intOf v5).toNat)
      case atStart => exact ⟨0, none, 0, W7.heap.size, [], Nat.zero_le _, rfl, J7.out, ⟨World.ownsRow_nil _ _ _ _, .inl rfl⟩, IdL.nil _ _, Nat.le_refl _, Only.refl _ _⟩
      case round =>
        obtain ⟨i, p, c, g', L, hi, rfl, hJ, hR, hL, hqg', hO7⟩ := hrel
        have c40 := hJ.b1.d40 h
        have d40 : wr.cell? ⟨q, 40, none⟩ = some (.slice p i c) := hJ.b2.d40 h
        have hw7 := hO7.size
        have I := Lib.hid (And.intro hJ (And.intro hR (And.intro hL hO7)))
        have hqg : q < g' := by omega
        clear hJ hR hL hO7
        by_cases hlt : i < z.n9
        · have HLT := Lib.hid hlt
          have hsl : s.ids.length = z.n9 := I.out.1.i.s9.1
          obtain ⟨gs, o, a, m, kc, hp, hS, hc, hd, hl, hrd, hnl⟩ := I.out.1.i.s9.2.1 i (by rw [hsl]; exact hlt)
          have hts : s.ids.take (i + 1) = s.ids.take i ++ [s.ids[i]'(by rw [hsl]; exact hlt)] := List.take_succ_eq_append_getElem (by rw [hsl]; exact hlt)
          obtain ⟨v, hv⟩ : ∃ v, v = s.ids[i]'(by rw [hsl]; exact hlt) := ⟨_, rfl⟩
          rw [← hv] at hts hl hrd hd
          obtain ⟨ke, gr⟩ := v
          simp only at hl hrd hd
          have HT := Lib.hid (And.intro hts (And.intro hl (And.intro hrd hnl)))
          have hgs := World.block_lt_of_cell? wr _ hc
          have hqw := I.out.1.lt
          have fq := I.out.1.b2.fr 40
          have hba : Below wr.heap.size wr (wr.alloc (.cells #[.slice a m kc, .int .i64 gr] 51)) := (Below.refl _ _).alloc (Nat.le_refl _) _
          have ca : (wr.alloc (.cells #[.slice a m kc, .int .i64 gr] 51)).cell? ⟨q, 40, none⟩ = some (.slice p i c) := (I.out.1.b2.below hba).d40 h
          have HBA := Lib.hid hba.drew
          have hpi : (i : Int) < (z.n9 : Int) := by omega
          have hpz : (0 : Int) ≤ (i : Int) := by omega
          rw [hp] at c40
          clear hts hv hl hrd hnl hp hS hsl hba
          go_wp2_with fail
          go_region_law ((refine step_append_row rfl _ _ 45 rfl 51 (.agg #[.slice none 0 0, .int .i64 0]) 2 32 Try.underlying45 Try.infoIdR rfl (by decide) g' (.slice p i c) i L (by simp [Act.eval, Act.put]) (Row.only I.out.2.1 (Only.of_below (r := fun _ => False) HBA.out) (fun h => h)) ⟨wr.heap.size, 0, none⟩ 1 1 [.slice a m kc, .int .i64 gr] (by simp [Act.eval, Act.put]) rfl (cell_two wr _ _ _) (by simp [Value.oneCell']) (by simp only [maxLen]; omega) (by omega) (wr.heap.size + 1) (by simp) ?_; intro g2 v2 w5 hrow hg2 hO5q; have hO5 : Only (· = g') wr w5 := (Only.of_below (r := fun k => k = g') HBA.out).then hO5q; have hJ5 := I.out.1.only hO5 hqg; have c5 := hJ5.b2.d40 h; have f5 := hJ5.b2.fr 40; obtain ⟨p5, k5, rfl, -⟩ := Row.form hrow; have H5 := Lib.hid (And.intro hrow (And.intro hO5 hJ5)); clear hrow hO5q hO5 hJ5))
          all_goals
            have hJ6 := H5.out.2.2.put 8 (.slice p5 (i + 1) k5) (y' := (z.u6 p6 z.n6 c6).u9 p5 (i + 1) k5) rfl
            have ho6 : Only (fun k => k = q) w5 (w5.setCell ⟨q, 40, none⟩ (.slice p5 (i + 1) k5)) := (Only.refl (fun k => k = q) w5).setCell _ _ (.inl rfl)
            have hg26 : W7.heap.size ≤ g2 := by rcases hg2 with h | h <;> omega
            have hq0 := I.out.1.ne
            have hR6 := Row.only H5.out.1 ho6 (by omega)
            have hL6 : IdL (w5.setCell ⟨q, 40, none⟩ (.slice p5 (i + 1) k5)) (· < M) (L ++ [.slice a m kc, .int .i64 gr]) (s.ids.take (i + 1)) := by
              rw [HT.out.1]
              refine IdL.only ?_ ho6 (by intro k hk e; omega)
              refine IdL.only ?_ H5.out.2.1 (by intro k hk e; omega)
              exact I.out.2.2.1.push (ke, gr) a m kc HT.out.2.1 HT.out.2.2.1 HT.out.2.2.2
            have hO76 := (I.out.2.2.2.trans H5.out.2.1 (fun _ h => h) (fun k hk e => by omega)).then ho6
            have H7 := Lib.hid (And.intro hJ6 (And.intro hR6 (And.intro hL6 hO76)))
            clear hJ6 ho6 hR6 hL6 hO76
            go_wp2
            go_roundw
            case rel => exact ⟨i + 1, p5, k5, g2, _, by have := HLT.out; omega, by go_num, H7.out.1, H7.out.2.1, H7.out.2.2.1, hg26, H7.out.2.2.2⟩
            case measure => have := HLT.out; simp [intOf]; omega
        · obtain rfl : i = z.n9 := by omega
          have hI2 := I.out.1.i
          have hsl9 : s.ids.length = z.n9 := hI2.s9.1
          have htk : s.ids.take z.n9 = s.ids := by rw [← hsl9]; exact List.take_length
          obtain ⟨p9, c9, he9, hat9, hn9, hc9, hm9⟩ := (by have h := I.out.2.2.1; rw [htk] at h; exact h : IdL wr (· < M) L s.ids).at (by rw [hsl9]; exact I.out.2.1)
          rw [hsl9] at he9 hc9
          obtain rfl : p9 = p := by cases he9; rfl
          obtain rfl : c9 = c := by cases he9; rfl
          clear he9
          have hat6 := (K.out.2.1.mono (T := fun k => k ≠ q ∧ k ≠ w.heap.size + 1 ∧ k < W7.heap.size) (fun k hk7 hk => by have h1 := I.out.1.ne; have h2 := I.out.1.hM; rcases hk with hk | hk <;> exact ⟨by omega, by omega, hk7⟩)).only I.out.2.2.2 (fun k hk e => hk.1 e)
          have H9 := Lib.hid (And.intro hsl9 (And.intro hat9 (And.intro hn9 (And.intro hc9 (And.intro hm9 hat6)))))
          have hwq9 := I.out.1.lt
          have hne9 := I.out.1.ne
          clear hI2 hsl9 htk hat9 hn9 hc9 hm9 hat6
          go_wp2_with (first
            | (refine wpList_load_mid rfl 48 (.tmp 3) rfl q 0 rfl (clV s ((z.u6 p6 z.n6 c6).u9 p9 z.n9 c9)).toList _ I.out.1.b2.range Try.underlying48 rfl (by rw [clV_len _ _ h]; exact Try.infoRc) ?_; rw [Array.toArray_toList])
            | (refine st_blk rfl 48 (.tmp 2) (.tmp 75) rfl (w.heap.size + 1) (clV s ((z.u6 p6 z.n6 c6).u9 p9 z.n9 c9)) rfl rfl 48 (clV clZ z10) I.out.1.rt (by rw [clV_size _ _ h]; exact Try.infoRc) (by rw [clV_size _ _ rfl, clV_size _ _ h]) (clV_ones _ _) ?_; intro w16 hb16 ho16; have H16 := Lib.hid (And.intro hb16 ho16); clear hb16 ho16))
          refine bodyPost_ret (v := .agg (clV s ((z.u6 p6 z.n6 c6).u9 p9 z.n9 c9))) (results_cell_row (P := Try.prog) Try.results22 _ _ (w.heap.size + 1) _ _ _ _ rfl H16.out.1 Try.underlying48 rfl (by rw [clV_size _ _ h]; exact Try.infoRc)) rfl ?_
          have hi0 := I.out.1.i
          have hMM := I.out.1.hM
          have hi1 : IsCl wr (fun k => k < wr.heap.size ∧ k ≠ w.heap.size + 1) s ((z.u6 p6 z.n6 c6).u9 p9 z.n9 c9) := by
            have hm := hi0.mono (T := fun k => k < wr.heap.size ∧ k ≠ w.heap.size + 1) (fun k hk h => ⟨hk, by omega⟩)
            refine ⟨hm.len, hm.s1, hm.s2, hm.s3, hm.s4, hm.s5, ⟨K.out.1, ?_, K.out.2.2⟩, hm.s7, hm.s8, ⟨H9.out.1, ?_, H9.out.2.2.1, H9.out.2.2.2.1, H9.out.2.2.2.2.1⟩, hm.s10⟩
            · exact H9.out.2.2.2.2.2.mono (fun k hk h => ⟨hk, h.2.1⟩)
            · exact H9.out.2.1.mono (fun k hk h => ⟨hk, by rcases h with h | h <;> omega⟩)
          have hz16 := H16.out.2.size
          exact ⟨p6, c6, p9, c9, rfl, (hi1.only H16.out.2 (fun k hk e => hk.2 e)).mono (fun k hk h => hk), below_only I.out.1.lo I.out.1.lo.size H16.out.2 (by intro k hk e; omega)⟩
end Go.Proofs.Ytegmimnhkohaoaa
