/-
  The walk of MessagePieces: it returns true, and changes nothing that lay there. Conditions: those of the rows that are handed over.
-/
import Derived.Test.YtkgeecejgpekkaaMsgB
import Derived.Test.YtkgeecejgpekkaaMsgPure
import Derived.Test.YtkgeecejgpekkaaStepA
import Derived.Deep.RegionHeld3
import Derived.Deep.CutBlock
import Derived.Deep.CutRange
namespace Go.Proofs.Ytkgeecejgpekkaa
open Go.RowKit Go.Kx

theorem hop256 (n : Int) : ∃ K : Nat, wrap64 ((IntKind.u64.wrap n).tmod 256) = (K : Int) ∧ K < 256 := by
  have h0 : 0 ≤ IntKind.u64.wrap n := by rw [IntKind.wrap_u64]; omega
  rw [Int.tmod_eq_emod_of_nonneg h0]
  generalize IntKind.u64.wrap n = y at h0
  have h1 : 0 ≤ y % 256 ∧ y % 256 < 256 := ⟨Int.emod_nonneg _ (by omega), Int.emod_lt_of_pos _ (by omega)⟩
  generalize y % 256 = x at h1
  rw [IntWalk.wrap64_in x ⟨by omega, by omega⟩]
  exact ⟨x.toNat, by omega, by omega⟩

/-- One round: so many bytes are looked at; the message lies still. -/
def PiRel (w : World) (g N c : Nat) (X : List UInt8) (v9 : Value) (wr : World) : Prop :=
  ∃ i : Nat, v9 = .int .i64 (i : Int) ∧ i ≤ N ∧ Own wr g (.slice (some ⟨g, 0, none⟩) N c) X ∧ g < wr.heap.size ∧ Below w.heap.size w wr

set_option maxHeartbeats 20000000 in
set_option maxRecDepth 100000 in
theorem pieces_c (kind : Int) (p1 p2 : Option Addr) (n1 c1 n2 c2 : Nat) (l1 l2 : List UInt8) (w : World) (h1 : Rd w (· < w.heap.size) p1 l1) (hn1 : l1.length = n1) (hm1 : c1 ≤ maxLen) (hc1 : n1 ≤ c1) (hp1 : p1 = none → c1 = 0)
    (h2 : Rd w (· < w.heap.size) p2 l2) (hn2 : l2.length = n2) (hm2 : c2 ≤ maxLen) (hc2 : n2 ≤ c2) (hp2 : p2 = none → c2 = 0) :
    Calls Try.prog 4 #[.int .i64 kind, .slice p1 n1 c1, .slice p2 n2 c2] w fun e w' => e = .returned (.bool true) ∧ Below w.heap.size w w' := by
  unfold maxLen at hm1 hm2
  obtain ⟨N, hN⟩ : ∃ N, N = min n1 100 := ⟨_, rfl⟩
  obtain ⟨M, hM⟩ : ∃ M, M = min n2 20 := ⟨_, rfl⟩
  have hmin1 : min (n1 : Int) 100 = (N : Int) := by omega
  have hmin2 : min (n2 : Int) 20 = (M : Int) := by omega
  have hN1 : N ≤ 100 := by omega
  have hN2 : N ≤ c1 := by omega
  have hM1 : M ≤ 20 := by omega
  have hM2 : M ≤ c2 := by omega
  have hNi : (N : Int) ≤ (c1 : Int) := by omega
  have hMi : (M : Int) ≤ (c2 : Int) := by omega
  have hN0 : (0 : Int) ≤ (N : Int) := by omega
  have hM0 : (0 : Int) ≤ (M : Int) := by omega
  have hl : (l1.take N).length = N := by rw [List.length_take]; omega
  have hR := h1.take N
  have hl' : (l2.take M).length = M := by rw [List.length_take]; omega
  have hR' := h2.take M
  have HL := Lib.hid (And.intro (And.intro hl hR) (And.intro hl' hR'))
  have HMIN := Lib.hid (And.intro hmin1 hmin2)
  clear h1 hn1 hN hl hR h2 hn2 hM hl' hR' hmin1 hmin2
  generalize hlt : l1.take N = l at *
  generalize hlt' : l2.take M = mo at *
  clear hlt hlt' l1 l2
  obtain ⟨K, hK, hK256⟩ := hop256 kind
  go_enter Try.func4, Try.ntmps4
  go_upto_region 1 with (fail)
  go_cut [1, 2] (fun v1 v2 wx => v1 = .slice p1 N c1 ∧ v2 = .slice p2 M c2 ∧ Below w.heap.size w wx)
  case first =>
    go_region_held3 (fun _ => True) (first | trivial) (first
      | (refine step_min rfl (.tmp 20) (.const (.int .i64 100)) 3 3 rfl (n1 : Int) 100 (N : Int) (by simp [Act.eval]) (by simp [Act.eval]) HMIN.out.1 ?_)
      | (refine step_min rfl (.tmp 25) (.const (.int .i64 20)) 3 3 rfl (n2 : Int) 20 (M : Int) (by simp [Act.eval]) (by simp [Act.eval]) HMIN.out.2 ?_))
    all_goals go_wp2
    all_goals go_meet
    all_goals exact ⟨rfl, rfl, (Below.refl _ _).drew⟩
  case rest =>
  obtain ⟨rfl, rfl, hb⟩ := hcut
  have HB := Lib.hid hb
  clear hb
  obtain ⟨X, hX⟩ : ∃ X, X = msgB K l := ⟨_, rfl⟩
  have hXl : X.length = N + 4 := by rw [hX, msgB_length, HL.out.1.1]
  have HX := Lib.hid hX
  have HXL := Lib.hid hXl
  clear hX hXl
  go_upto_block 0 with (first
    | (go_at_call 6; refine (mput_yes K (· < w.heap.size) p1 N c1 l _ hK256 (by omega) (HL.out.1.2.below HB.out) hp1 HL.out.1.1).mono ?_; rintro e w2 ⟨g, n, c, rfl, q1, q2, q3, q4, q5, q6, q7⟩)
    | (go_at_call 9; refine (mputs_c _).mono ?_; rintro e w3 ⟨rfl, b3⟩))
  rw [← HX.out] at q1 q6
  obtain rfl : n = N + 4 := by rw [← q1, HXL.out]
  have hz3 := b3.size
  have hz2 := q7.size
  have hB3 : Below w.heap.size w w3 := HB.out.trans ((q7.mono HB.out.size).trans (b3.mono (Nat.le_trans HB.out.size hz2)))
  have HB3 := Lib.hid hB3
  have HO3 := Lib.hid (Own.keep q6 b3)
  have hg3 : g < w3.heap.size := by omega
  have hgw : w.heap.size ≤ g := Nat.le_trans HB.out.size q2
  obtain ⟨n, hnn⟩ : ∃ n, n = N + 4 := ⟨_, rfl⟩
  rw [← hnn] at HXL HO3 q4 ⊢
  have hn4 : n ≤ 104 := by omega
  have HNN := Lib.hid hnn
  unfold maxLen at q5
  clear hB3 q7 q6 q1 b3 hnn q2 q3 hz3 hz2
  go_cut [9] (fun v9 wx => Own wx g (.slice (some ⟨g, 0, none⟩) n c) X ∧ g < wx.heap.size ∧ Below w.heap.size w wx)
  case first =>
    go_wp2_with fail
    go_loopw [9, 10, 11, 12, 13] (fun v9 _ _ _ _ wr => PiRel w g n c X v9 wr) (fun v9 _ _ _ _ _ => n - (intOf v9).toNat)
    case atStart => exact ⟨0, rfl, by omega, HO3.out, hg3, HB3.out⟩
    case round =>
      obtain ⟨i, rfl, hin, hO, hgl, hB⟩ := hrel
      have HO := Lib.hid hO
      have HBr := Lib.hid hB
      clear hO hB
      by_cases hlt : i < n
      · have i0 : (0 : Int) ≤ (i : Int) := by omega
        have i1 : (i : Int) < (n : Int) := by omega
        have i2 : i ≤ c := by omega
        have i3 : (i : Int) ≤ (c : Int) := by omega
        have htk : takeM (X.take i) = (0, [], X.take i, false, 0) := by
          rw [HX.out]
          exact takeM_part (by rw [HL.out.1.1]; omega) (by rw [← HX.out, HXL.out]; exact hlt)
        have hxi : (X.take i).length = i := by rw [List.length_take, HXL.out]; omega
        have HT := Lib.hid (And.intro htk hxi)
        clear htk hxi
        go_upto_region 9 with (go_at_call 8; refine (mtake_c (· = g) (some ⟨g, 0, none⟩) i c (X.take i) _ (HO.out.rd.take i) (by intro h; cases h) (by rw [HT.out.2]; omega) HT.out.2).mono ?_; rintro e w5 ⟨g1, pa, na, ca, g2, pb, nb, cb, rfl, q1, q2, q3, q4', q5', q6, q7⟩; rw [HT.out.1] at q1 q2 q5' q6 ⊢)
        have hga : Only (fun _ => False) w5 (w5.alloc (.cells #[.int .i64 0, .slice pa na ca] 29)).drew := ((Only.refl _ w5).alloc _).drew
        have hBf : Below w.heap.size w (w5.alloc (.cells #[.int .i64 0, .slice pa na ca] 29)).drew := below_only (HBr.out.trans (q7.mono HBr.out.size)) (Nat.le_trans HBr.out.size q7.size) hga (fun _ _ h => h)
        have hOx : Own (w5.alloc (.cells #[.int .i64 0, .slice pa na ca] 29)).drew g (.slice (some ⟨g, 0, none⟩) n c) X := (Own.keep HO.out q7).only hga (fun h => h)
        have s1 := run_strO (q6.only hga (fun h => h)) q2
        have s2 := run_str (c := c) (hOx.rd.take i) HT.out.2
        have hgl5 : g < (w5.alloc (.cells #[.int .i64 0, .slice pa na ca] 29)).drew.heap.size := by have h1 := q7.size; have h2 := hga.size; omega
        have HF := Lib.hid (And.intro hBf hOx)
        clear hga hBf hOx q7 q6 q5' q1 q3 q4'
        go_cut [72] from 44 to 72 (fun v wx => v = .bool false ∧ Own wx g (.slice (some ⟨g, 0, none⟩) n c) X ∧ g < wx.heap.size ∧ Below w.heap.size w wx)
        case first =>
          go_region_held3 (fun w' => (convert 23 9 (.slice pb nb cb)).run Try.prog w' = .ok (.string ⟨(X.take i).toArray⟩) w' ∧ (convert 23 9 (.slice (some ⟨g, 0, none⟩) i c)).run Try.prog w' = .ok (.string ⟨(X.take i).toArray⟩) w') (first | exact ⟨s1, s2⟩ | go_keep) (first | fail)
          all_goals go_wp2
          all_goals go_meet
          all_goals exact ⟨by simp, HF.out.2, hgl5, HF.out.1⟩
        case rest =>
          obtain ⟨rfl, ho, hgl', hbl⟩ := hcut
          have HH := Lib.hid (And.intro ho (And.intro hgl' hbl))
          clear ho hgl' hbl
          go_wp2
          exact ⟨⟨i + 1, by simp, by omega, HH.out⟩, by simp [intOf]; omega⟩
      · have i1 : ¬ (i : Int) < (n : Int) := by omega
        go_wp2
        go_meet
        exact ⟨HO.out, hgl, HBr.out⟩
  case rest =>
    obtain ⟨hOw, hgc, hBc⟩ := hcut
    have HOw := Lib.hid hOw
    have HBc := Lib.hid hBc
    clear hOw hBc
    have hmo2 : Rd wc (· < w.heap.size) p2 mo := HL.out.2.2.below HBc.out
    have HMO := Lib.hid hmo2
    have hfull : takeM (X ++ mo) = (K, l, mo, true, 0) := by rw [HX.out]; exact takeM_full hK256 (by rw [HL.out.1.1]; omega)
    have hfl : (X ++ mo).length = n + M := by rw [List.length_append, HXL.out, HL.out.2.1]
    have HFU := Lib.hid (And.intro hfull hfl)
    clear hmo2 hfull hfl
    have hownN := Own.new wc
    have HON := Lib.hid hownN
    have XR1 := Lib.hid (HOw.out.rd.below ((Below.refl _ wc).alloc (Nat.le_refl _) (.cells #[] 5)))
    clear hownN
    go_wp2_with (at_builtin; refine wpList_append_bytes _ rfl (.tmp 74) (.tmp 75) 23 rfl Try.underlying23 Try.info5 _ _ [] rfl HON.out (· = g) _ n c X rfl HXL.out (by intro h; cases h) XR1.out (by rw [HXL.out]; show 0 + n ≤ _; omega) ?_)
    intro ga va wa ha hga hoa hna
    clear hna
    have zga : ga = wc.heap.size ∨ ga = wc.heap.size + 1 := by simpa using hga
    have hba : Below wc.heap.size wc wa := (((Only.refl (fun k => k = wc.heap.size) wc).alloc (.cells #[] 5)).then hoa).below (Nat.le_refl _) (by intro k hk e; omega)
    have ha' : Own wa ga va X := by simpa using ha
    have HA := Lib.hid ha'
    have HMA := Lib.hid (HMO.out.below hba)
    have HBA := Lib.hid hba
    clear ha ha' hba hoa hga
    go_wp2_with (at_builtin; refine wpList_append_bytes _ rfl (.tmp 76) (.tmp 77) 23 rfl Try.underlying23 Try.info5 _ _ X rfl HA.out (· < w.heap.size) _ M c2 mo rfl HL.out.2.1 hp2 HMA.out (by rw [HXL.out, HL.out.2.1]; omega) ?_)
    intro gb vb wb' hb hgb hob hnb
    clear hnb
    have hbb : Below wc.heap.size wc wb' := below_only HBA.out HBA.out.size hob (by intro k hk e; omega)
    obtain ⟨NB, hNB⟩ : ∃ NB, (X ++ mo).length = NB := ⟨_, rfl⟩
    obtain ⟨pb, cb, rfl, _, _, hRb, hNb, _⟩ := hb.form
    rw [hNB]
    have HNB := Lib.hid hNB
    have hBw : Below w.heap.size w wb' := HBc.out.trans (hbb.mono HBc.out.size)
    have HRB := Lib.hid (And.intro hRb hBw)
    clear hRb hbb hBw hob hb hgb zga hNB
    go_upto_region 12 with (go_at_call 8; refine (mtake_c (· = gb) pb NB cb (X ++ mo) _ HRB.out.1 hNb (by rw [HFU.out.2]; omega) HNB.out).mono ?_; rintro e w5 ⟨g1, pa, na, ca, g2, pd, nd, cd, rfl, q1, q2, q3, q4', q5', q6, q7⟩; rw [HFU.out.1] at q1 q2 q5' q6 ⊢)
    have hbx : Box2 (w5.alloc (.cells #[.int .i64 (K : Int), .slice pa na ca] 29)) w5.heap.size 29 (.int .i64 (K : Int)) (.slice pa na ca) := Box2.new _ _ _ _
    have hal : Only (fun _ => False) w5 (w5.alloc (.cells #[.int .i64 (K : Int), .slice pa na ca] 29)) := (Only.refl _ w5).alloc _
    have hBf : Below w.heap.size w (w5.alloc (.cells #[.int .i64 (K : Int), .slice pa na ca] 29)) := below_only (HRB.out.2.trans (q7.mono HRB.out.2.size)) (Nat.le_trans HRB.out.2.size q7.size) hal (fun _ _ h => h)
    have d0 := hbx.c0
    have d1 := hbx.c1
    have s1 := run_strO (q5'.only hal (fun h => h)) q1
    have s2 := run_strO (q6.only hal (fun h => h)) q2
    have s3 := run_str (c := c1) (HL.out.1.2.below hBf) HL.out.1.1
    have s4 := run_str (c := c2) (HL.out.2.2.below hBf) HL.out.2.1
    have HF := Lib.hid hBf
    clear hbx hal hBf q7 q6 q5' q3 q4' q1 q2
    go_wp2
    go_ret
    exact ⟨rfl, HF.out⟩
end Go.Proofs.Ytkgeecejgpekkaa
