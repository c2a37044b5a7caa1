/-
  StreamPieces returns true and changes nothing that was there. Conditions: the two slices lie in memory as the row hands them over.
-/
import Derived.Test.YtcgdeebjgcgepaaPiecesA
namespace Go.Proofs.Ytcgdeebjgcgepaa
open Go.RowKit Go.Kx

set_option maxRecDepth 100000 in
set_option maxHeartbeats 20000000 in
theorem pieces (p0 q : Option Addr) (n0 c0 m d : Nat) (l0 : List UInt8) (zs : List Int) (w : World) (h0 : Rd w (· < w.heap.size) p0 l0) (hn0 : l0.length = n0) (hc0 : n0 ≤ c0) (hm0 : c0 ≤ maxLen) (hp0 : p0 = none → c0 = 0)
    (hq : IntsAt w (· < w.heap.size) q m zs) (hmd : m ≤ 9223372036854775807) :
    Calls Try.prog 3 #[.slice p0 n0 c0, .slice q m d] w fun e w' => e = .returned (.bool true) ∧ Below w.heap.size w w' := by
  go_enter Try.func3, Try.ntmps3
  go_wp2_with fail
  refine (none_c _).mono ?_
  rintro e w1 ⟨rfl, rfl⟩
  go_wp2_with fail
  refine (take_nil _).mono ?_
  rintro e w1 ⟨rfl, rfl⟩
  simp only [retE]
  go_wp2_with fail
  refine (takes_c _).mono ?_
  rintro e w1 ⟨rfl, hB1⟩
  have HB1 := Lib.hid hB1
  clear hB1
  go_upto_region 4 with (first | (go_at_call 5; refine (none_c _).mono ?_; rintro e w2 ⟨rfl, rfl⟩) | (go_at_call 8; refine (feed_nil _ _).mono ?_; rintro e w2 ⟨rfl, rfl⟩) | (go_at_call 9; refine (left_nil _).mono ?_; rintro e w2 ⟨rfl, rfl⟩))
  go_cut [0] (fun v0 wx => ∃ g c, v0 = .slice (some ⟨g, 0, none⟩) (l0.take 900).length c ∧ Own wx g (.slice (some ⟨g, 0, none⟩) (l0.take 900).length c) (l0.take 900) ∧ (l0.take 900).length ≤ c ∧ c ≤ maxLen ∧ w.heap.size ≤ g ∧ Below w.heap.size w wx)
  case first =>
    have h1 := (h0.below HB1.out).below ((Below.refl _ _).alloc (Nat.le_refl _) (.cells #[] 5))
    have ho := Own.new w1
    have hz := HB1.out.size
    unfold maxLen at hm0
    by_cases hle : n0 ≤ 900
    · have hL : l0.take 900 = l0 := List.take_of_length_le (by omega)
      have HL := Lib.hid hL
      have HN := Lib.hid hn0
      clear hL hn0 h0 hq
      go_wp2_with (at_builtin; refine wpList_append_bytes _ rfl _ _ 22 rfl Try.underlying22 Try.info5 _ _ [] rfl ho _ _ _ _ l0 rfl HN.out hp0 h1 ?c1 ?_)
      case c1 => have := HN.out; simp only [List.length_nil]; omega
      intro g' v' w' ho' hg' hO hnil
      have hn0' : v' ≠ .slice none 0 0 := by simpa using hnil
      clear hnil
      obtain ⟨c', rfl, k1, k2, k3⟩ := ho'.shape hn0'
      have HO := Lib.hid ho'
      have HG := Lib.hid hg'
      clear ho' hg'
      go_wp2_with fail
      go_meet
      have hG := HG.out
      exact ⟨g', c', by rw [HL.out], by rw [HL.out]; exact HO.out, by rw [HL.out]; exact k1, k2, by omega, below_only (HB1.out.alloc hz _) (by simp; omega) hO (by intro k hk e; omega)⟩
    · have hL : (l0.take 900).length = 900 := by rw [List.length_take]; omega
      have HL := Lib.hid hL
      have h2 := Rd.take 900 h1
      have i1 : (900 : Int) ≤ (c0 : Int) := by omega
      have i2 : ¬ (n0 : Int) ≤ 900 := by omega
      clear hL hn0 h0 hq h1
      go_wp2_with (at_builtin; refine wpList_append_bytes _ rfl _ _ 22 rfl Try.underlying22 Try.info5 _ _ [] rfl ho _ _ _ _ (l0.take 900) rfl HL.out hp0 h2 ?c1 ?_)
      case c1 => have := HL.out; omega
      intro g' v' w' ho' hg' hO hnil
      have hn0' : v' ≠ .slice none 0 0 := by simpa using hnil
      clear hnil
      obtain ⟨c', rfl, k1, k2, k3⟩ := ho'.shape hn0'
      have HO := Lib.hid ho'
      have HG := Lib.hid hg'
      clear ho' hg'
      go_wp2_with fail
      go_meet
      have hG := HG.out
      exact ⟨g', c', rfl, HO.out, k1, k2, by omega, below_only (HB1.out.alloc hz _) (by simp; omega) hO (by intro k hk e; omega)⟩
  case rest =>
    obtain ⟨gb, cb, rfl, hob, hlc, hcm, hgb, hbw⟩ := hcut
    have hL9 : (l0.take 900).length ≤ 900 := by rw [List.length_take]; omega
    have hrb := hob.rd
    have hltb : gb < wc.heap.size := hob.lt (by intro h; cases h)
    generalize hLe : l0.take 900 = L at *
    have hqw : IntsAt wc (· < w.heap.size) q m zs := by
      intro i hi
      obtain ⟨a, rfl, ha, hc⟩ := hq i hi
      exact ⟨a, rfl, ha, (hbw.cell (by rw [add_block]; exact ha)).trans hc⟩
    obtain ⟨K, hK⟩ : ∃ K, K = L.length := ⟨_, rfl⟩
    rw [← hK] at hlc ⊢
    have HK := Lib.hid hK
    have s1 := run_str (w := wc) (c := cb) hrb hK.symm
    have HQ := Lib.hid hqw
    have HOB := Lib.hid hob
    have HBW := Lib.hid hbw
    have hz1 := hbw.size
    clear hLe hqw hob hbw h0 hn0 hc0 hm0 hp0 hq hK HB1
    go_wp2_with fail
    refine (all_c (· = gb) _ _ _ L _ (by intro k hk; omega) hrb (by intro h; cases h) (by omega) HK.out.symm hlc hcm).mono ?_
    rintro e wa ⟨pl, cl, gw, vw, xs, rfl, hpl, hrl, hgw, hrow, hrecs, hr5, hll, hba⟩
    obtain ⟨recs, left, bad, hall⟩ : ∃ recs left bad, allS L = (recs, left, bad) := ⟨_, _, _, rfl⟩
    rw [hall] at hrl hrow hrecs hr5 hll ⊢
    dsimp only at hrl hrow hrecs hr5 hll ⊢
    obtain ⟨pw, cw, rfl, hpw, hcw⟩ := Row.form hrow
    have hrlen := hrecs.length
    have hctx : Ctx wa q m zs gb L pw gw recs xs pl left := ⟨fun i hi => by
        obtain ⟨a, rfl, ha, hc⟩ := HQ.out i hi
        have : (a.add i).block < w.heap.size := by rw [add_block]; exact ha
        exact ⟨a, rfl, by have := hba.size; omega, (hba.cell (by omega)).trans hc⟩,
      (hrb.below hba).mono (fun k hk _ => hk), hrl.mono (fun k hk _ => hk), RecsAt.mono (fun h => h.mono fun k hk _ => hk) hrecs, hpw, hcw⟩
    have HC := Lib.hid hctx
    have HAL := Lib.hid hall
    have HBA := Lib.hid hba
    have HPL := Lib.hid hpl
    have hz2 := hba.size
    clear hrl hrow hrecs hall hba hpl s1 hpw hcw hctx hrlen
    go_wp2_with fail
    refine (new_c (fun _ => False) none 0 0 [] _ (Rd.nil _ _ _) (fun _ => rfl) (by simp) rfl).mono ?_
    rintro e wn ⟨r, gr, rfl, hr1, hr2, hgr1, hR, hbn⟩
    have HR := Lib.hid hR
    have HBN := Lib.hid hbn
    have hz3 := hbn.size
    clear hR hbn
    go_wp2
    go_loopw [13, 14, 15, 16, 17] (fun v13 v14 v15 v16 v17 wr => OutRel wa L recs left bad m v13 v14 v15 v16 v17 wr) (fun _ _ _ _ v17 _ => 41 - (intOf v17).toNat)
    case atStart =>
      refine ⟨r, gr, [], 0, 0, 0, 0, rfl, rfl, rfl, rfl, rfl, hr1, hgr1, by omega, by omega, by omega, by simp, by omega, HR.out, HBN.out, fun _ => ⟨⟨by omega, ?_⟩, rfl, .inl ⟨by omega, by omega⟩⟩, fun h => absurd rfl h⟩
      simpa using HAL.out
    case round =>
      obtain ⟨r', g, l, at_, n, i, err, rfl, rfl, rfl, rfl, rfl, hr', hg, hat, hi40, him, hlat, hn, hR', hB', hE0, hE1⟩ := hrel
      have HR' := Lib.hid hR'
      have HB' := Lib.hid hB'
      have HE0 := Lib.hid hE0
      have HE1 := Lib.hid hE1
      clear hR' hB' hE0 hE1
      have hbd : 0 ≤ recs.length := Nat.zero_le _
      by_cases herr : err = 0
      · subst herr
        obtain ⟨hY, hT, hend⟩ := HE0.out rfl
        have HY := Lib.hid hY
        have HT := Lib.hid hT
        clear hY hT
        by_cases hgo : i ≤ m ∧ i < 40
        · obtain ⟨hgo1, hgo2⟩ := hgo
          clear hend HE0 HE1
          have hzr := HB'.out.size
          have kB := Ctx.rdb HC.out.rb HB'.out
          have KB := Lib.hid kB
          have hil : (i : Int) ≤ (m : Int) := by omega
          have hi4 : (i : Int) < 40 := by omega
          clear kB
          go_upto_region 14 with (fail)
          go_cut [90] (fun v wx => v = .bool (decide (i < m ∧ i < 39)) ∧ wr = wx)
          case first =>
            by_cases hc1 : i < m
            · by_cases hc2 : i < 39
              · go_wp2_with fail
                go_meet
                exact ⟨congrArg Value.bool (by rw [Bool.eq_iff_iff]; simp; omega), rfl⟩
              · go_wp2_with fail
                go_meet
                exact ⟨congrArg Value.bool (by rw [Bool.eq_iff_iff]; simp; omega), rfl⟩
            · go_wp2_with fail
              go_meet
              exact ⟨congrArg Value.bool (by rw [Bool.eq_iff_iff]; simp; omega), rfl⟩
          case rest =>
          obtain ⟨rfl, rfl⟩ := hcut
          go_upto_if 90 with (fail)
          go_cut [18] (fun v18 wx => ∃ tt : Nat, v18 = .int .i64 (tt : Int) ∧ at_ ≤ tt ∧ tt ≤ L.length ∧ (i < m ∧ i < 39 ∨ tt = L.length) ∧ wr = wx)
          case first =>
            by_cases hc : i < m ∧ i < 39
            · obtain ⟨hc1, hc2⟩ := hc
              obtain ⟨bq, oq, rfl, hbq, hcq⟩ := IntsAt.at HC.out.ints hc1
              have hcq' : wr.cell? ⟨bq, oq + i, none⟩ = some (.int .i64 (zs.getD i 0)) := (HB'.out.cell hbq).trans hcq
              generalize zs.getD i 0 = z at hcq'
              clear hcq
              go_wp2_with fail
              · go_meet
                exact ⟨K, rfl, by have := HK.out; omega, by have := HK.out; omega, .inr HK.out, rfl⟩
              · obtain ⟨tt, ht, hle⟩ := hop at_ z (by omega)
                have hV : wrap64 ((at_ : Int) + wrap64 ((IntKind.u64.wrap z).tmod 60)) ≤ (K : Int) := by assumption
                rw [ht] at hV ⊢
                go_meet
                exact ⟨tt, rfl, hle, by have := HK.out; omega, .inl ⟨hc1, hc2⟩, rfl⟩
            · go_wp2_with fail
              go_meet
              exact ⟨K, rfl, by have := HK.out; omega, by have := HK.out; omega, .inr HK.out, rfl⟩
          case rest =>
          obtain ⟨tt, rfl, hat1, hat2, hat3, rfl⟩ := hcut
          have hX : Rd wr (· < wa.heap.size) (if cb = at_ then some ⟨gb, 0, none⟩ else some ⟨gb, at_, none⟩) ((L.drop at_).take (tt - at_)) := by
            split
            · rw [show (L.drop at_).take (tt - at_) = [] from by have := HK.out; rw [List.take_eq_nil_iff]; right; rw [List.drop_eq_nil_iff]; omega]; exact Rd.nil _ _ _
            · have h := (Rd.drop at_ KB.out).take (tt - at_)
              rwa [Nat.zero_add] at h
          have hXl : ((L.drop at_).take (tt - at_)).length = tt - at_ := by rw [List.length_take, List.length_drop]; omega
          have HX := Lib.hid hX
          have HXL := Lib.hid hXl
          clear hX hXl
          go_upto_region 16 with (fail)
          go_cut [109] (fun v wx => v = .bool false ∧ ∃ g', Rdr wx r' g' (l ++ (L.drop at_).take (tt - at_)) 0 ∧ wa.heap.size ≤ g' ∧ Below wa.heap.size wa wx)
          case first =>
            have hlx : l.length + ((L.drop at_).take (tt - at_)).length ≤ 140737488355328 := by have := HXL.out; omega
            have hbo : ∀ k, k < wa.heap.size → ¬ (k = r' ∨ k = g) := by intro k hk e; omega
            have htc : tt ≤ cb := by have := HK.out; omega
            by_cases hcb : cb = at_
            · subst hcb
              have hnil : (L.drop cb).take (tt - cb) = [] := List.eq_nil_of_length_eq_zero (by have := HXL.out; omega)
              have HNIL := Lib.hid hnil
              clear hnil
              go_wp2_with fail
              refine (feed_c r' g l (fun _ => False) _ _ _ [] wr HR'.out (Rd.nil _ _ _) rfl (by intro h; cases h) (by simp only [List.length_nil]; omega)).mono ?_
              rintro e w3 ⟨rfl, g', hR3, hg3, hO3⟩
              have HR3 := Lib.hid hR3
              have HG3 := Lib.hid hg3
              have HO3 := Lib.hid hO3
              clear hR3 hg3 hO3
              go_wp2_with fail
              go_meet
              exact ⟨rfl, g', by rw [HNIL.out]; exact HR3.out, by have := HG3.out; omega, below_only HB'.out hzr HO3.out hbo⟩
            · have hXX := HX.out
              rw [if_neg hcb] at hXX
              have HXX := Lib.hid hXX
              clear hXX
              go_wp2_with fail
              refine (feed_c r' g l _ _ _ _ ((L.drop at_).take (tt - at_)) wr HR'.out HXX.out HXL.out (by intro h; cases h) hlx).mono ?_
              rintro e w3 ⟨rfl, g', hR3, hg3, hO3⟩
              have HR3 := Lib.hid hR3
              have HG3 := Lib.hid hg3
              have HO3 := Lib.hid hO3
              clear hR3 hg3 hO3
              go_wp2_with fail
              go_meet
              exact ⟨rfl, g', HR3.out, by have := HG3.out; omega, below_only HB'.out hzr HO3.out hbo⟩
          case rest =>
          obtain ⟨rfl, g', hR3, hg3, hB3⟩ := hcut
          have HR3 := Lib.hid hR3
          have HB3 := Lib.hid hB3
          clear hR3 hB3
          go_wp2_with fail
          go_loopg [15] (l ++ (L.drop at_).take (tt - at_)).length (fun k v15 wx => InRel wa L recs left bad r' tt k v15 wx)
          case atStart =>
            refine ⟨g', _, n, rfl, rfl, by have := HXL.out; rw [List.length_append]; omega, hg3, hn, HR3.out, HB3.out, ?_⟩
            have h := HY.out
            have e : L.drop at_ = (L.drop at_).take (tt - at_) ++ L.drop tt := by
              conv => lhs; rw [← List.take_append_drop (tt - at_) (L.drop at_)]
              rw [List.drop_drop, show at_ + (tt - at_) = tt from by omega]
            rw [List.append_assoc, ← e]
            exact h
          case round =>
            obtain ⟨g2, l2, n2, rfl, hlk, hkt, hg2, hn2, hR2, hB2, hY2⟩ := hrel
            have HR2 := Lib.hid hR2
            have HB2 := Lib.hid hB2
            have HY2 := Lib.hid hY2
            have HLK := Lib.hid hlk
            have hl2 : l2.length ≤ 900 := by omega
            have hz2' := hB2.size
            clear hR2 hB2 hY2 hlk HR3 HB3 HX HXL HY HT
            rcases takeS_cases l2 with ⟨E, hE⟩ | ⟨k, body, rest, hE⟩
            · have HE := Lib.hid hE
              clear hE
              by_cases hE0 : E = 0
              · subst hE0
                go_wp2_with fail
                refine (take_none r' g2 l2 0 _ HR2.out (by omega) HE.out).mono ?_
                rintro e w4 ⟨rfl, hR4, hO4⟩
                have HR4 := Lib.hid hR4
                have HO4 := Lib.hid hO4
                clear hR4 hO4
                go_wp2_with fail
                refine (left_c r' g2 l2 0 _ HR4.out (by omega)).mono ?_
                rintro e w5 ⟨g5, p5, c5, rfl, hg5, hg5', ho5, hb5⟩
                have HO5 := Lib.hid ho5
                have HB5 := Lib.hid hb5
                clear ho5 hb5
                go_wp2_with fail
                refine (new_c _ _ _ _ l2 _ HO5.out.rd (by obtain ⟨_, _, he, _, _, _, hpn, _⟩ := HO5.out.form; cases he; exact hpn) (by omega) rfl).mono ?_
                rintro e w6 ⟨r6, g6, rfl, h61, h62, h63, hR6, hB6⟩
                have HR6 := Lib.hid hR6
                have HB6 := Lib.hid hB6
                clear hR6 hB6
                go_wp2
                have z4 := HO4.out.size
                have z5 := HB5.out.size
                have hlk := HLK.out
                refine ⟨⟨r6, g6, l2, tt, n2, i + 1, 0, rfl, rfl, rfl, rfl, by simp, by omega, by omega, hat2, by omega, by omega, by omega, hn2, HR6.out, ?_, fun _ => ⟨HY2.out, HE.out, by omega⟩, fun h => absurd rfl h⟩, by simp [intOf]; omega⟩
                exact (below_only HB2.out hz2' HO4.out (by intro k hk e; omega)).trans ((HB5.out.mono (by omega)).trans (HB6.out.mono (by omega)))
              · have hEb : (E == 0) = false := by simpa using hE0
                have HE0' : RowKit.Hid (E ≠ 0) := hE0
                clear hE0
                go_wp2_with fail
                refine (take_none r' g2 l2 E _ HR2.out (by omega) HE.out).mono ?_
                rintro e w4 ⟨rfl, hR4, hO4⟩
                have HR4 := Lib.hid hR4
                have HO4 := Lib.hid hO4
                clear hR4 hO4
                go_wp2
                have z4 := HO4.out.size
                have hlk := HLK.out
                obtain ⟨hn2', hbE⟩ := Yet.err HY2.out HE0'.out HE.out
                refine ⟨⟨r', g2, l2, tt, n2, i + 1, E, rfl, rfl, rfl, rfl, by simp, by omega, by omega, hat2, by omega, by omega, by omega, hn2, HR4.out, ?_, fun h => absurd h HE0'.out, fun _ => ⟨hn2', hbE⟩⟩, by simp [intOf]; omega⟩
                exact below_only HB2.out hz2' HO4.out (by intro k hk e; omega)
            · have HE := Lib.hid hE
              clear hE
              obtain ⟨hnl, hrec, hY3⟩ := Yet.some HY2.out HE.out
              have HY3 := Lib.hid hY3
              have HTL := Lib.hid (takeS_lt HE.out)
              obtain ⟨hk1, pb, cb2, hk2, hpb, hrb2⟩ := RecsAt.get HC.out.rc n2 k body hrec
              obtain ⟨rfl, hgwl⟩ := HC.out.pw (by omega)
              have x1 := HC.out.cw _ _ hk1
              have x2 := HC.out.cw _ _ hk2
              have HRB2 := Lib.hid hrb2
              clear hY3 hk1 hk2 hrec hrb2 hpb
              go_wp2_with fail
              refine (take_yes r' g2 l2 k body rest _ HR2.out (by omega) HE.out).mono ?_
              rintro e w4 ⟨g4, k4, g5, rfl, ho4, h41, h42, h43, h44, hR4, hO4⟩
              have hb4 := below_only HB2.out hz2' hO4 (by intro k hk e; omega)
              have y1 := (hb4.cell (p := ⟨gw, 2 * n2, none⟩) hgwl).trans x1
              have y2 := (hb4.cell (p := ⟨gw, 2 * n2 + 1, none⟩) hgwl).trans x2
              have s1 : ∀ nq, Sem.run Try.prog (convert 22 9 (.slice (some ⟨g4, 0, none⟩) body.length k4)) (w4.drewN nq) = .ok (.string ⟨body.toArray⟩) (w4.drewN nq) := fun nq => run_str (ho4.rd.below (blw_drewN nq (Below.refl _ _))) rfl
              have s2 : ∀ nq, Sem.run Try.prog (convert 22 9 (.slice pb body.length cb2)) (w4.drewN nq) = .ok (.string ⟨body.toArray⟩) (w4.drewN nq) := fun nq => run_str ((Ctx.rdb HRB2.out hb4).below (blw_drewN nq (Below.refl _ _))) rfl
              have HO4 := Lib.hid hO4
              have HR4 := Lib.hid hR4
              have HB4 := Lib.hid hb4
              have i0 : (0 : Int) ≤ (n2 : Int) := by omega
              have i1 : (n2 : Int) < (recs.length : Int) := by omega
              clear hO4 hR4 hb4 ho4 x1 x2
              rw [Nat.mul_comm] at y1 y2
              have q1 : decide (recs.length ≤ n2) = false := by simp; omega
              have q2 : decide ((recs.length : Int) ≤ (n2 : Int)) = false := by simp; omega
              go_wp2
              go_quiet (fail)
              go_wp2
              have hlk := HLK.out
              have htl := HTL.out
              go_roundg rest.length
              case measure => omega
              case rel => exact ⟨g5, rest, n2 + 1, by simp, rfl, by omega, by omega, by omega, HR4.out.only (Only.drewN _ (Only.refl (fun _ => False) _)) (fun h => h) (fun h => h), blw_drewN _ HB4.out, HY3.out⟩
        · have hatL : at_ = L.length := by omega
          clear hend
          obtain ⟨hn', hbad', hleft'⟩ := Yet.done (by have h := HY.out; rwa [hatL, List.drop_length, List.append_nil] at h) HT.out
          subst hn'
          subst hbad'
          subst hleft'
          have HAT := Lib.hid hatL
          clear hatL
          have hzr := HB'.out.size
          have kB := Ctx.rdb HC.out.rb HB'.out
          have kL := Ctx.rdb HC.out.rl HB'.out
          have KB := Lib.hid kB
          have KL := Lib.hid kL
          have sL0 := run_str (w := wr.drew) (c := cl) (kL.below (Below.refl _ _).drew) rfl
          have hll9 : left.length ≤ 140737488355328 := by omega
          clear kB kL sL0
          have R30 : ∀ W : World, Below wr.heap.size wr W → Sem.run Try.prog (convert 22 9 (.slice pl left.length cl)) W = .ok (.string ⟨left.toArray⟩) W ∧ Sem.run Try.prog (convert 22 9 (.slice (some ⟨gb, 0, none⟩) K cb)) W = .ok (.string ⟨L.toArray⟩) W :=
            fun W hb => ⟨run_str (KL.out.below hb) rfl, run_str (KB.out.below hb) HK.out.symm⟩
          have HR3 := Lib.hid (HR'.out.only (Only.drew (Only.refl (fun _ => False) wr)) (fun h => h) (fun h => h))
          have HRR := Lib.hid R30
          clear R30
          go_wp2_with fail
          all_goals
            go_region_held (fun w' => Sem.run Try.prog (convert 22 9 (.slice pl left.length cl)) w' = .ok (.string ⟨left.toArray⟩) w' ∧ Sem.run Try.prog (convert 22 9 (.slice (some ⟨gb, 0, none⟩) K cb)) w' = .ok (.string ⟨L.toArray⟩) w')
              (first | exact HRR.out _ (undrew (by assumption)) | exact HRR.out _ (Below.refl _ _).drew | exact HRR.out _ (Below.refl _ _))
              (first | (go_at_call 9; refine (left_c r' g left 0 _ HR3.out hll9).mono ?_; rintro e w2 ⟨g2, p2, c2, rfl, hg2, hg2', ho2, hb2⟩; have t1 := run_str (w := w2) (c := c2) ho2.rd rfl; have HB2 := Lib.hid hb2; clear ho2 hg2 hg2'))
            go_wp2
            go_ret
            exact ⟨rfl, (HBW.out.trans (HBA.out.mono hz1)).trans ((HB'.out.mono (by omega)).trans ((undrew HB2.out).mono (by omega)))⟩
      · obtain ⟨rfl, rfl⟩ := HE1.out herr
        have e1 : (bad == 0) = false := by simpa using herr
        have e2 : (bad != 0) = true := by simpa using herr
        obtain ⟨hrg, pr, cr, hbox, hown⟩ := HR'.out
        have HBX := Lib.hid hbox
        clear hbox hown
        have hrb' := Ctx.rdb HC.out.rb HB'.out
        have s2 := fun nq : Nat => run_str (w := (wr.drewN nq).alloc (.cells #[.int .u8 1] 5)) (c := cb) (hrb'.below ((blw_drewN nq (Below.refl _ _)).alloc (Nat.le_refl _) (.cells #[.int .u8 1] 5))) HK.out.symm
        clear herr
        go_wp2_with fail
        all_goals
          refine (take_bad r' _ bad _ HBX.out (by simpa using e1)).mono ?_
          rintro e w2 ⟨rfl, nq, rfl⟩
          simp only [retE]
          have s3 := s2 nq
          clear s2
          go_wp2_with fail
          refine (feed_bad r' _ _ bad _ (HBX.out.below ((blw_drewN nq (Below.refl _ _)).alloc (Nat.le_refl _) _)) (by simpa using e1)).mono ?_
          rintro e w3 ⟨rfl, rfl⟩
          go_wp2
          go_ret
          refine ⟨rfl, ?_⟩
          exact (HBW.out.trans (HBA.out.mono hz1)).trans ((HB'.out.mono (by omega)).trans ((blw_drewN nq (Below.refl _ _)).alloc (by have := HB'.out.size; simp; omega) _))
end Go.Proofs.Ytcgdeebjgcgepaa
