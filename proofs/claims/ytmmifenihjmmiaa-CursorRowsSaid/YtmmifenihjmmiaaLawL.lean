/-
  The walk of CursorRows: it returns true, and changes nothing that lay there. Conditions: those of the row of rows that is handed over.
-/
import Derived.Test.YtmmifenihjmmiaaRowsPure
import Derived.Test.YtmmifenihjmmiaaStepA
import Derived.Deep.RegionHeld3
import Derived.Deep.CutBlock
import Derived.Deep.CutRange
namespace Go.Kx
open Go.RowKit
theorem Only.cell_at {q : Nat → Prop} {w w' : World} {p : Addr} (h : Only q w w') (hb : p.block < w.heap.size) (hq : ¬ q p.block) : w'.cell? p = w.cell? p := World.cell?_of_block (w := w) (w' := w') (h.block _ hb hq)
end Go.Kx
namespace Go.Proofs.Ytmmifenihjmmiaa
open Go.RowKit Go.Kx

theorem Own.keep {w w' : World} {g : Nat} {v : Value} {l : List UInt8} (h : Own w g v l) (hb : Below w.heap.size w w') : Own w' g v l := h.only (Only.of_below (r := fun _ => False) hb) (fun h => h)


theorem hop4 (n : Int) : ∃ K : Nat, wrap64 ((IntKind.u64.wrap n).tmod 4) = (K : Int) ∧ K < 4 := by
  have h0 : 0 ≤ IntKind.u64.wrap n := by rw [IntKind.wrap_u64]; omega
  rw [Int.tmod_eq_emod_of_nonneg h0]
  generalize IntKind.u64.wrap n = y at h0
  have h1 : 0 ≤ y % 4 ∧ y % 4 < 4 := ⟨Int.emod_nonneg _ (by omega), Int.emod_lt_of_pos _ (by omega)⟩
  generalize y % 4 = x at h1
  rw [IntWalk.wrap64_in x ⟨by omega, by omega⟩]
  exact ⟨x.toNat, by omega, by omega⟩

/-- The relation of the first loop. -/
def LRel1 (w : World) (W M : Nat) (T : Nat → List UInt8) (v6 v7 v8 : Value) (wr : World) : Prop :=
  ∃ (i g : Nat), v7 = .int .i64 (i : Int) ∧ v8 = .int .i64 (i : Int) ∧ i ≤ M ∧ w.heap.size ≤ g ∧ Own wr g v6 (tot W T i) ∧ Below w.heap.size w wr
/-- .. and of the second. -/
def LRel2 (wc : World) (r g W M : Nat) (T : Nat → List UInt8) (v10 : Value) (wr : World) : Prop :=
  ∃ (i : Nat), v10 = .int .i64 (i : Int) ∧ i ≤ M ∧ Cur wr r g (suf W T M i) 0 ∧ Only (· = r) wc wr

set_option maxHeartbeats 20000000 in
set_option maxRecDepth 100000 in
theorem rows_c (p0 : Option Addr) (len cap : Nat) (width : Int) (w : World) (h0 : IsRows w p0 len cap) (hcap : len ≤ cap) (hcm : cap ≤ maxLen) :
    Calls Try.prog 3 #[.slice p0 len cap, .int .i64 width] w fun e w' => e = .returned (.bool true) ∧ Below w.heap.size w w' := by
  unfold maxLen at hcm
  obtain ⟨F, hF⟩ := open_rows h0
  obtain ⟨M, hM⟩ : ∃ M, M = min len 20 := ⟨_, rfl⟩
  obtain ⟨T, hT⟩ : ∃ T : Nat → List UInt8, T = fun i => (F i).take 60 := ⟨_, rfl⟩
  have hT60 : ∀ i, (T i).length ≤ 60 := by intro i; rw [hT]; simp only [List.length_take]; omega
  have HF := Lib.hid hF
  have HT := Lib.hid hT
  have HT60 := Lib.hid hT60
  have hM20 : M ≤ 20 ∧ M ≤ len := by omega
  have HM := Lib.hid hM
  clear h0 hF hT hT60 hM
  obtain ⟨K, hK, hK4⟩ := hop4 width
  have hKW : IntKind.i64.wrap (1 + (K : Int)) = ((K + 1 : Nat) : Int) := by rw [IntWalk.i64_in _ ⟨by omega, by omega⟩]; omega
  go_enter Try.func3, Try.ntmps3
  go_upto_block 0 with (fail)
  obtain ⟨W, hW⟩ : ∃ W, W = K + 1 := ⟨_, rfl⟩
  have hWc : (K : Int) + 1 = (W : Int) := by omega
  rw [hWc]
  have hW4 : 1 ≤ W ∧ W ≤ 4 := by omega
  clear hW hWc hK hK4 hKW
  have hTL := fun k => tot_le W T hW4.2 HT60.out k
  have HTL := Lib.hid hTL
  clear hTL
  go_cut [6, 7] (fun v6 v7 wx => ∃ (g N c : Nat) (p : Option Addr), v6 = .slice p N c ∧ v7 = .int .i64 (M : Int) ∧ (tot W T M).length = N ∧ w.heap.size ≤ g ∧ Own wx g (.slice p N c) (tot W T M) ∧ Below w.heap.size w wx)
  case first =>
    go_wp2_with fail
    go_loopw [6, 7, 8] (fun v6 v7 v8 wr => LRel1 w W M T v6 v7 v8 wr) (fun _ _ v8 _ => 20 - (intOf v8).toNat)
    case atStart => exact ⟨0, w.heap.size, rfl, rfl, by omega, Nat.le_refl _, Own.nil _ _, Below.refl _ _⟩
    case round =>
      obtain ⟨i, g, rfl, rfl, hiM, hg, hO, hB⟩ := hrel
      have HO := Lib.hid hO
      have HB := Lib.hid hB
      clear hO hB
      obtain ⟨pb, cb, rfl, _, _, _, hpb, _⟩ := HO.out.form
      obtain ⟨NB, hNB⟩ : ∃ NB, (tot W T i).length = NB := ⟨_, rfl⟩
      rw [hNB]
      have HO2 := Lib.hid (show Own wr g (.slice pb NB cb) (tot W T i) by rw [← hNB]; exact HO.out)
      have hNBl : NB ≤ i * 68 := by rw [← hNB]; exact HTL.out i
      have HNB := Lib.hid hNB
      clear hNB HO
      by_cases hgo : i < len ∧ i < 20
      · obtain ⟨hg1, hg2⟩ := hgo
        obtain ⟨b, o, q, n, c, rfl, _, _, hcell, hRq, hnq, hnc, hcm', hqn⟩ := HF.out i hg1
        have hblt : b < w.heap.size := by have := World.block_lt_of_cell? w _ hcell; exact this
        have d0 := (HB.out.cell (p := ⟨b, o + i, none⟩) hblt).trans hcell
        obtain ⟨m, hm⟩ : ∃ m : Nat, min (n : Int) 60 = (m : Int) := ⟨min n 60, by omega⟩
        unfold maxLen at hcm'
        have hmc : m ≤ c := by omega
        have hmci : (m : Int) ≤ (c : Int) := by omega
        have hm0 : (0 : Int) ≤ (m : Int) := by omega
        have hm60 : m ≤ 60 := by omega
        have hTi : T i = (F i).take 60 := by rw [HT.out]
        have hTm : (T i).length = m := by rw [hTi, List.length_take, hnq]; omega
        have hRT : Rd w (· < w.heap.size) q (T i) := by rw [hTi]; exact hRq.take 60
        have HRT := Lib.hid (And.intro hRT hTm)
        have HMI := Lib.hid hm
        have i0 : (0 : Int) ≤ (i : Int) := by omega
        have i1 : (i : Int) < (len : Int) := by omega
        have i2 : (i : Int) < 20 := by omega
        clear hcell hRq hnq hm hTi hTm hRT
        go_upto_region 7 with (fail)
        go_cut [6] from 18 to 46 (fun v6 wx => ∃ (g' N' c' : Nat), v6 = .slice (some ⟨g', 0, none⟩) N' c' ∧ w.heap.size ≤ g' ∧ Own wx g' (.slice (some ⟨g', 0, none⟩) N' c') (tot W T (i + 1)) ∧ Below w.heap.size w wx)
        case first =>
          have hBd : Below w.heap.size w wr.drew := HB.out.drew
          have HBd := Lib.hid hBd
          have HO3 := Lib.hid (HO2.out.only ((Only.refl (fun _ => False) wr).drew) (fun h => h))
          have hd0 : wr.drew.cell? ⟨b, o + i, none⟩ = some (.slice q n c) := d0
          have HD := Lib.hid hd0
          clear hBd hd0
          have h256 : 256 ≤ 256 ^ W := by have : 256 ^ 1 ≤ 256 ^ W := Nat.pow_le_pow_right (by decide) hW4.1; omega
          have H256 := Lib.hid h256
          clear h256
          go_region_held3 (fun w' => w'.cell? ⟨b, o + i, none⟩ = some (.slice q n c)) (first | exact HD.out | exact e1 | exact e2 | go_keep)
            (first
              | (refine step_min rfl (.tmp 37) (.const (.int .i64 60)) 3 3 rfl (n : Int) 60 (m : Int) (by simp [Act.eval]) (by simp [Act.eval]) HMI.out ?_)
              | (go_at_call 8; refine (vec_yes (· = g) (· < w.heap.size) pb q NB cb m c (tot W T i) (T i) W _ HO3.out.rd hpb HNB.out (HRT.out.1.below HBd.out) hqn HRT.out.2 (by rw [HNB.out, HRT.out.2]; omega) hW4 (by have := H256.out; omega)).mono ?_; rintro e wa ⟨g1, N1, c1, rfl, l1, z1, z1', y1, y1', o1, b1⟩; have e1 := (b1.cell (p := ⟨b, o + i, none⟩) (by show b < _; have := HBd.out.size; omega)).trans HD.out)
              | (go_at_call 7; refine (put_yes (· = g1) (some ⟨g1, 0, none⟩) N1 c1 (tot W T i ++ be m W ++ T i) i W _ o1.rd (by intro h; cases h) (by simp only [List.length_append, be_length]; rw [HNB.out, HRT.out.2]; omega) l1 hW4 (by have := H256.out; omega)).mono ?_; rintro e wb' ⟨g2, N2, c2, rfl, l2, z2, z2', y2, y2', o2, b2⟩; have e2 := (b2.cell (p := ⟨b, o + i, none⟩) (by show b < _; have := HBd.out.size; have := b1.size; omega)).trans e1))
          all_goals go_wp2
          all_goals go_meet
          all_goals
            have ht : tot W T (i + 1) = tot W T i ++ be m W ++ T i ++ be i W := by rw [tot_succ, HRT.out.2]
            have hz := HBd.out.size
            refine ⟨g2, N2, c2, rfl, by have := b1.size; omega, by rw [ht]; exact o2, HBd.out.trans ((b1.mono hz).trans (b2.mono (by have := b1.size; omega)))⟩
        case rest =>
          obtain ⟨g', N', c', rfl, hg', ho', hb'⟩ := hcut
          have HH := Lib.hid (And.intro ho' hb')
          clear ho' hb'
          go_wp2
          exact ⟨⟨i + 1, g', by simp, by simp, by have := HM.out; omega, hg', HH.out.1, HH.out.2⟩, by simp [intOf]; omega⟩
      · have hiM' : i = M := by have := HM.out; omega
        subst hiM'
        by_cases hlt : i < len
        · have i1 : (i : Int) < (len : Int) := by omega
          have i2 : ¬ (i : Int) < 20 := by omega
          go_wp2
          go_meet
          exact ⟨g, NB, cb, pb, rfl, rfl, HNB.out, hg, HO2.out, HB.out⟩
        · have i1 : ¬ (i : Int) < (len : Int) := by omega
          go_wp2
          go_meet
          exact ⟨g, NB, cb, pb, rfl, rfl, HNB.out, hg, HO2.out, HB.out⟩
  case rest =>
    obtain ⟨g, N, c, pb, rfl, rfl, hN, hg, hO, hB⟩ := hcut
    have HO := Lib.hid hO
    have HB := Lib.hid hB
    have HN := Lib.hid hN
    have hNl : N ≤ M * 68 := by rw [← hN]; exact HTL.out M
    obtain ⟨_, _, hx, _, _, _, hpn, _⟩ := hO.form
    have hpn' : pb = none → c = 0 := by cases hx; exact hpn
    clear hx hpn hO hB hN
    go_wp2_with (go_at_call 9; refine (new_c (· = g) pb N c (tot W T M) _ HO.out.rd hpn' (by rw [HN.out]; omega) HN.out).mono ?_; rintro e w3 ⟨r, gr, rfl, k1, k2, k3, k4, k5⟩)
    rw [← suf_zero W T M] at k4
    have B3 := Lib.hid (HB.out.trans (k5.mono HB.out.size))
    have K4 := Lib.hid k4
    have hzw := HB.out.size
    clear k4 k5 HO HN HB
    have hSL : ∀ k, (suf W T M k).length ≤ 1360 := by intro k; have h1 := suf_le W T M k; have h2 := HTL.out M; omega
    have HSL := Lib.hid hSL
    clear hSL
    go_loopw [10, 11, 12] (fun v10 _ _ wr => LRel2 w3 r gr W M T v10 wr) (fun v10 _ _ _ => M - (intOf v10).toNat)
    case atStart => exact ⟨0, rfl, by omega, K4.out, Only.refl _ _⟩
    case round =>
      obtain ⟨i, rfl, hiM, hC, hOn⟩ := hrel
      have HC := Lib.hid hC
      have HOn := Lib.hid hOn
      clear hC hOn
      by_cases hlt : i < M
      · obtain ⟨b, o, q, n, cq, rfl, _, _, hcell, hRq, hnq, hnc, hcm', hqn⟩ := HF.out i (by omega)
        have hblt : b < w.heap.size := by have := World.block_lt_of_cell? w _ hcell; exact this
        have hBr : Below w.heap.size w wr := below_only B3.out B3.out.size HOn.out (by intro k hk e; omega)
        obtain ⟨m, hm⟩ : ∃ m : Nat, min (n : Int) 60 = (m : Int) := ⟨min n 60, by omega⟩
        have hTi : T i = (F i).take 60 := by rw [HT.out]
        have hTm : (T i).length = m := by rw [hTi, List.length_take, hnq]; omega
        have hRT : Rd w (· < w.heap.size) q (T i) := by rw [hTi]; exact hRq.take 60
        have hvec := suf_vec W T M i hlt hW4 (HT60.out i)
        obtain ⟨hn1, hn2, hn3⟩ := suf_num W i (suf W T M (i + 1)) hW4 (by omega)
        have hlen := suf_len W T M i hlt
        have hl1 := HSL.out i
        have hl2 := HSL.out (i + 1)
        have hl3 : (be i W ++ suf W T M (i + 1)).length ≤ 1364 := by rw [List.length_append, be_length]; omega
        obtain ⟨SI, hSI⟩ : ∃ SI, SI = suf W T M i := ⟨_, rfl⟩
        obtain ⟨SM, hSM⟩ : ∃ SM, SM = be i W ++ suf W T M (i + 1) := ⟨_, rfl⟩
        obtain ⟨SJ, hSJ⟩ : ∃ SJ, SJ = suf W T M (i + 1) := ⟨_, rfl⟩
        rw [← hSM] at hvec hn1 hn2 hn3 hl3
        rw [← hSI] at hvec hlen hl1 HC
        rw [← hSJ] at hn2 hlen hl2
        obtain ⟨NI, hNI⟩ : ∃ NI, SI.length = NI := ⟨_, rfl⟩
        obtain ⟨NJ, hNJ⟩ : ∃ NJ, SJ.length = NJ := ⟨_, rfl⟩
        rw [hNI, hNJ, hTm] at hlen
        rw [hNI] at hl1
        rw [hNJ] at hl2
        have cL : ∀ wx, Cur wx r gr SI 0 → Calls Try.prog 10 #[rp r] wx (fun e w' => e = .returned (.int .i64 (NI : Int)) ∧ wx = w') := by
          intro wx h; rw [← hNI]; exact left_c r gr SI 0 wx h
        have cL2 : ∀ wx, Cur wx r gr SJ 0 → Calls Try.prog 10 #[rp r] wx (fun e w' => e = .returned (.int .i64 (NJ : Int)) ∧ wx = w') := by
          intro wx h; rw [← hNJ]; exact left_c r gr SJ 0 wx h
        have cV : ∀ wx, Cur wx r gr SI 0 → Calls Try.prog 11 #[rp r, .int .i64 (W : Int), .int .i64 0, .int .i64 60] wx (fun e w' => ∃ g' p c, e = .returned (.slice p m c) ∧ wx.heap.size ≤ g' ∧ Own w' g' (.slice p m c) (T i) ∧ Cur w' r gr SM 0 ∧ Only (· = r) wx w') := by
          intro wx h
          refine (vector_c r gr SI 0 (W : Int) 0 60 wx h (by omega)).mono ?_
          rintro e w' ⟨g', p, c, rfl, h1, h2, h3, h4⟩
          rw [hvec] at h2 h3
          exact ⟨g', p, c, by rw [hvec]; simp only [hTm], h1, by simp only [hTm] at h2; exact h2, h3, h4⟩
        have cU : ∀ wx, Cur wx r gr SM 0 → Calls Try.prog 12 #[rp r, .int .i64 (W : Int)] wx (fun e w' => e = .returned (.int .i64 (i : Int)) ∧ Cur w' r gr SJ 0 ∧ Only (· = r) wx w') := by
          intro wx h
          refine (uint_c r gr SM 0 (W : Int) wx h).mono ?_
          rintro e w' ⟨rfl, h2, h3⟩
          rw [hn1]
          rw [hn2, hn3] at h2
          exact ⟨rfl, h2, h3⟩
        have e1 : IntKind.i64.wrap (2 * (W : Int)) = 2 * (W : Int) := IntWalk.i64_in _ ⟨by omega, by omega⟩
        have e2 : IntKind.i64.wrap ((NI : Int) - 2 * (W : Int)) = (NI : Int) - 2 * (W : Int) := IntWalk.i64_in _ ⟨by omega, by omega⟩
        have e3 : IntKind.i64.wrap ((NI : Int) - 2 * (W : Int) - (m : Int)) = (NJ : Int) := by rw [IntWalk.i64_in _ ⟨by omega, by omega⟩]; omega
        have d0 := (hBr.cell (p := ⟨b, o + i, none⟩) hblt).trans hcell
        have CC := Lib.hid (And.intro (And.intro cL cL2) (And.intro cV cU))
        have HRT := Lib.hid (And.intro hRT hTm)
        have HMI := Lib.hid hm
        have HBR := Lib.hid hBr
        have HSJ := Lib.hid hSJ
        unfold maxLen at hcm'
        have hmc : m ≤ cq := by omega
        have hmci : (m : Int) ≤ (cq : Int) := by omega
        have hm0 : (0 : Int) ≤ (m : Int) := by omega
        have i0 : (0 : Int) ≤ (i : Int) := by omega
        have i1 : (i : Int) < (M : Int) := by omega
        have i3 : (i : Int) < (len : Int) := by omega
        clear hcell hRq hnq hm hTi hTm hRT hvec hn1 hn2 hn3 hlen hl3 hSI hSM hSJ hNI hNJ cL cL2 cV cU hBr
        go_upto_region 15 with (first
          | (go_at_call 10; refine (CC.out.1.1 _ HC.out).mono ?_; rintro e wl ⟨rfl, rfl⟩)
          | (go_at_call 11; refine (CC.out.2.1 _ HC.out).mono ?_; rintro e wv ⟨gv, pv, cv, rfl, zv, ov, hcv, hov⟩))
        have HCV := Lib.hid (And.intro hcv hov)
        have hBv : Below w.heap.size w wv := below_only HBR.out HBR.out.size hov (by intro k hk e; omega)
        have dv : wv.cell? ⟨b, o + i, none⟩ = some (.slice q n cq) := by
          refine (hov.cell_at (p := ⟨b, o + i, none⟩) ?_ ?_).trans d0
          · show b < _; have := HBR.out.size; omega
          · show ¬ b = r; omega
        have hgv : ¬ gv = r := by have := HOn.out.size; omega
        have OV := Lib.hid ov
        have BV := Lib.hid hBv
        have DV := Lib.hid dv
        clear hcv hov hBv dv ov d0
        go_cut [92] from 49 to 92 (fun v wx => v = .bool false ∧ Cur wx r gr SJ 0 ∧ Only (· = r) wv wx)
        case first =>
          have hd : Only (fun _ => False) wv wv.drew := (Only.refl _ _).drew
          have c1 := HCV.out.1.only hd (fun h => h) (fun h => h)
          have s1 := run_strO (OV.out.only hd (fun h => h)) HRT.out.2
          have s2 := run_str (c := cq) (HRT.out.1.below (BV.out.drew)) HRT.out.2
          have dvd : wv.drew.cell? ⟨b, o + i, none⟩ = some (.slice q n cq) := DV.out
          have C1 := Lib.hid c1
          clear c1
          go_region_held3 (fun w' => w'.cell? ⟨b, o + i, none⟩ = some (.slice q n cq) ∧ (convert 24 9 (.slice pv m cv)).run Try.prog w' = .ok (.string ⟨(T i).toArray⟩) w' ∧ (convert 24 9 (.slice q m cq)).run Try.prog w' = .ok (.string ⟨(T i).toArray⟩) w') (first | exact ⟨dvd, s1, s2⟩ | exact ⟨du, u1, u2⟩ | go_keep)
            (first
              | (refine step_min rfl (.tmp 69) (.const (.int .i64 60)) 3 3 rfl (n : Int) 60 (m : Int) (by simp [Act.eval]) (by simp [Act.eval]) HMI.out ?_)
              | (go_at_call 12; refine (CC.out.2.2 _ C1.out).mono ?_; rintro e wu ⟨rfl, hcu, hou⟩; have du : wu.cell? ⟨b, o + i, none⟩ = some (.slice q n cq) := (hou.cell_at (p := ⟨b, o + i, none⟩) (by show b < _; have := BV.out.drew.size; omega) (by show ¬ b = r; omega)).trans dvd; have u1 := run_strO (Own.only (OV.out.only hd (fun h => h)) hou (by show ¬ gv = r; omega)) HRT.out.2; have u2 := run_str (c := cq) (Rd.only (HRT.out.1.below (BV.out.drew)) hou (fun k hk e => by omega)) HRT.out.2)
              | (go_at_call 10; refine (CC.out.1.2 _ hcu).mono ?_; rintro e wl ⟨rfl, rfl⟩))
          all_goals go_wp2
          all_goals go_meet
          all_goals exact ⟨by simp, hcu, (hd.mono (fun _ _ h => h.elim)).then hou⟩
        case rest =>
          obtain ⟨rfl, hc2, ho2⟩ := hcut
          rw [HSJ.out] at hc2
          have HH := Lib.hid (And.intro hc2 (HOn.out.then (HCV.out.2.then ho2)))
          clear hc2 ho2
          go_wp2
          exact ⟨⟨i + 1, by simp, by omega, HH.out⟩, by simp [intOf]; omega⟩
      · have hiM' : i = M := by omega
        subst hiM'
        have hC0 : Cur wr r gr [] 0 := by rw [← suf_end W T i]; exact HC.out
        have HC0 := Lib.hid hC0
        have hBr : Below w.heap.size w wr := below_only B3.out B3.out.size HOn.out (by intro k hk e; omega)
        have HBR := Lib.hid hBr
        have e0 : doneS [] 0 = 0 := by simp [doneS]
        have E0 := Lib.hid e0
        clear hC0 hBr e0
        go_wp2_with (first
          | (go_at_call 13; refine (puts_c _).mono ?_; rintro e wp ⟨rfl, bp⟩; have cp := HC0.out.only (.of_below bp (r := fun _ => False)) (fun h => h) (fun h => h))
          | (go_at_call 14; refine (done_c r gr [] 0 _ cp).mono ?_; rintro e wd ⟨rfl, rfl⟩; rw [E0.out])
          | (go_at_call 15; refine (isWrong_c r gr [] 0 _ cp).mono ?_; rintro e wz ⟨rfl, rfl⟩))
        all_goals go_ret
        all_goals exact ⟨rfl, HBR.out.trans (bp.mono HBR.out.size)⟩
end Go.Proofs.Ytmmifenihjmmiaa
