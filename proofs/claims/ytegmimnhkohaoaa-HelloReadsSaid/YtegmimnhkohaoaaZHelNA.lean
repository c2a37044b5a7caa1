/-
  The closures of hello.numbers, keys and offered: what is read one after another. Conditions: at most 2 to the 20th bytes stand in it.
-/
import Derived.Test.YtegmimnhkohaoaaZg5
namespace Go.Proofs.Ytegmimnhkohaoaa
open Go.RowKit Go.Kx
set_option linter.unusedVariables false
set_option linter.unusedSimpArgs false
set_option maxRecDepth 100000
theorem Try.infoInt : (Try.prog.info? 3).map (fun i => (i.zero, i.size, i.bytes)) = some (some (.int .i64 0), 1, 8) := by kernel_rfl
theorem Try.infoShE : (Try.prog.info? 31).map (fun i => (i.zero, i.size, i.bytes)) = some (some (.agg #[.int .i64 0, .slice none 0 0]), 2, 32) := by kernel_rfl
theorem Try.infoIdE : (Try.prog.info? 104).map (fun i => (i.zero, i.size, i.bytes)) = some (some (.agg #[.slice none 0 0, .int .i64 0]), 2, 32) := by kernel_rfl
theorem Try.infoBsE : (Try.prog.info? 23).map (fun i => (i.zero, i.size, i.bytes)) = some (some (.slice none 0 0), 1, 24) := by kernel_rfl
theorem known_num : Known 99 := fun _ _ => by kernel_rfl
set_option maxHeartbeats 4000000 in
theorem num1_c (M bc : Nat) (s0 : List UInt8) (hb : bc < M) (hs : s0.length ≤ 1048576) :
    Reads M 99 #[.pointer (some ⟨bc, 0, none⟩)] (fun w => Var w bc 43 (.slice none 0 0)) s0 (loopL uF (s0.length + 1) s0 0).2 (fun w => Held NuL w bc 43 3 1 M (loopL uF (s0.length + 1) s0 0).1) (· = bc) := by
  refine ⟨known_num, fun ra ga w h1 h2 h3 hI hc => ?_⟩
  obtain ⟨Y, hY⟩ : ∃ Y, Y = loopL uF (s0.length + 1) s0 0 := ⟨_, rfl⟩
  rw [← hY]
  have H0 := Lib.hid (And.intro (show NB NuL w ra ga bc 43 3 1 w.heap.size [] s0 0 w from ⟨Held.nil nuK hI, hc, Only.refl _ _⟩) hY)
  have hbc := hI.lt
  have hra := hc.lt
  have hga := hc.glt
  clear hI hc hY
  show Calls Try.prog _ #[rp ra, .pointer (some ⟨bc, 0, none⟩)] w _
  go_enter Try.func99, Try.ntmps99
  go_wp2_with fail
  go_loopg [4] (s0.length + 1) (fun n v4 wr => ∃ A s bad, NB NuL w ra ga bc 43 3 1 w.heap.size A s bad wr ∧ joinL A (loopL uF n s bad) = Y ∧ (bad = 0 → s.length < n) ∧ A.length + s.length ≤ s0.length + (if bad = 0 then 0 else 1))
  case atStart => exact ⟨[], s0, 0, H0.out.1, H0.out.2.symm, fun _ => by omega, by simp⟩
  case round =>
    obtain ⟨A, s, bad, hN, hE, hn, hl⟩ := hrel
    have HR := Lib.hid (And.intro hN (And.intro hE (And.intro hn hl)))
    clear hN hE hn hl
    by_cases hs0 : s.length = 0
    · obtain rfl : s = [] := List.eq_nil_of_length_eq_zero hs0
      go_wp2_with (first
        | (go_at_call 82; refine (left_c ra ga [] bad _ HR.out.1.cur).mono ?_; rintro e w1 ⟨rfl, rfl⟩))
      go_end0
      obtain ⟨hN, hE, -⟩ := HR.out
      rw [joinL_stop uF A gk [] bad (.inl rfl)] at hE
      rw [← hE]
      exact ⟨rfl, hN.cur, hN.held.mono nuK h3, hN.ho⟩
    · have hpos : 0 < s.length := by omega
      have hposI : (0 : Int) < (s.length : Int) := by omega
      by_cases hbad : bad = 0
      · subst hbad
        have hn := HR.out.2.2.1 rfl
        have hl := HR.out.2.2.2
        rw [if_pos rfl] at hl
        obtain ⟨m, rfl⟩ : ∃ m, gk = m + 1 := ⟨gk - 1, by omega⟩
        have hne : s ≠ [] := by intro h; rw [h] at hs0; exact hs0 rfl
        have hless := uF_less s hne
        have hgo := joinL_go uF A m s hne
        have hE := HR.out.2.1
        rw [hgo] at hE
        have hF : uF s = rU s 0 2 := rfl
        have HU := Lib.hid (fun wx (h : Cur wx ra ga s 0) => ruint_c ra ga s 0 2 wx h)
        have hl1 := rU_left s 0 2
        obtain ⟨u1, hu1⟩ : ∃ u, u = rU s 0 2 := ⟨_, rfl⟩
        rw [← hu1] at HU hl1 hF
        obtain ⟨x, s1, b1⟩ := u1
        simp only at HU hl1 hF
        clear hu1
        rw [hF] at hless hE
        simp only at hless hE
        have HE := Lib.hid hE
        have hs1 := HR.out.1.ho.size
        obtain ⟨p, c, hV, hHP⟩ := HR.out.1.held.parts nuK (ra := ra) hbc hra (by omega)
        have c0 := hV.c
        have f0 := hV.fr
        have HP := Lib.hid hHP
        have HPV := Lib.hid (fun (w1 : World) (ho : Only (· = ra) wr w1) => hV.only ho (by omega))
        have HC := Lib.hid HR.out.1.cur
        have HO := Lib.hid HR.out.1.ho
        have HVd := Lib.hid (show Cur wr.drew ra ga s 0 from HC.out.only ((Only.refl (fun _ => False) wr).drew) (fun h => h) (fun h => h))
        clear hF hgo hE hV hne hHP
        go_wp2_with (first
          | (go_at_call 82; refine (left_c ra ga s 0 _ HC.out).mono ?_; rintro e w1 ⟨rfl, rfl⟩)
          | (go_at_call 83; refine (isWrong_c ra ga s 0 _ HC.out).mono ?_; rintro e w1 ⟨rfl, rfl⟩))
        go_region_law (first
          | (refine step_append_row rfl _ _ 43 rfl 3 (.int .i64 0) 1 8 Try.underlying43 Try.infoInt rfl (by decide) g3 (.slice p A.length c) A.length L (by simp [Act.eval, Act.put]) (Row.only HG.out.2.1 (Only.of_below (r := fun _ => False) HB.out) (fun h => h)) ⟨w1.heap.size, 0, none⟩ 1 1 [.int .i64 x] (by simp [Act.eval, Act.put]) rfl (cell_one w1 _ _) (by simp [Value.oneCell']) (by simp only [maxLen]; omega) (by omega) (w1.heap.size + 1) (by simp) ?_; intro g2 v2 w5 hrow hg2 hO5; have hO15 : Only (· = g3) w1 w5 := (Only.of_below (r := fun k => k = g3) HB.out).then hO5; have hV5 := HG.out.1.only hO15 (by omega); have c5 := hV5.c; have f5 := hV5.fr; obtain ⟨p5, k5, rfl, -⟩ := Row.form hrow; have H5 := Lib.hid (And.intro hrow (And.intro hO15 hV5)); clear hrow hO5 hO15 hV5)
          | (go_simp; go_at_call 46; refine (HU.out _ HVd.out).mono ?_; rintro e w1 ⟨rfl, hc, hoq⟩; have hoo : Only (· = ra) wr w1 := ⟨hoq.os, hoq.tape, hoq.output, hoq.size, hoq.block⟩; have q1 := HPV.out w1 hoo; have c1 := q1.c; have f1 := q1.fr; have hb1 : Below w1.heap.size w1 (w1.alloc (.cells #[.int .i64 x] 3)) := (Below.refl _ _).alloc (Nat.le_refl _) _; have ca1 : (w1.alloc (.cells #[.int .i64 x] 3)).cell? ⟨bc, 0, none⟩ = some (.slice p A.length c) := (q1.below hb1).c; have HB := Lib.hid hb1; obtain ⟨g3, L, hv3, hr3, hp3, hM3, hg3⟩ := HP.out w1 hoo; have HG := Lib.hid (And.intro hv3 (And.intro hr3 hp3)); clear hb1 hv3 hr3 hp3; have H1 := Lib.hid (And.intro hc hoo); have hz1 := hoo.size; clear q1 hoq hc hoo))
        all_goals
          have hN6 : NB NuL w ra ga bc 43 3 1 w.heap.size (A ++ [x]) s1 b1 (w5.setCell ⟨bc, 0, none⟩ (.slice p5 (A.length + 1) k5)) :=
            ⟨Held.step nuK HG.out.2.2 hM3 hg3 (by omega) hs1 H5.out.2.2 H5.out.1 hg2 H5.out.2.1 hbc (fun S w' _ _ h => by unfold NuL at *; rw [h, List.map_append]; rfl),
              (H1.out.1.only H5.out.2.1 (by omega) (by omega)).only ((Only.refl (fun k => k = bc) w5).setCell _ _ (.inl rfl)) (by omega) (by omega), only_loop HO.out H1.out.2 H5.out.2.1 hM3⟩
          go_wp2
          go_roundg m
          case measure => omega
          case rel =>
            refine ⟨A ++ [x], s1, b1, hN6, HE.out, ?_, ?_⟩
            · intro h0
              rcases hless with h | h
              · omega
              · exact absurd h0 h
            · rw [List.length_append, List.length_singleton]
              rcases hless with h | h
              · split <;> omega
              · rw [if_neg h]; omega
      · have hbb : (bad != 0) = true := by simpa using hbad
        have hbd : decide (bad ≠ 0) = true := decide_eq_true hbad
        go_wp2_with (first
          | (go_at_call 82; refine (left_c ra ga s bad _ HR.out.1.cur).mono ?_; rintro e w1 ⟨rfl, rfl⟩)
          | (go_at_call 83; refine (isWrong_c ra ga s bad _ HR.out.1.cur).mono ?_; rintro e w1 ⟨rfl, rfl⟩))
        go_end0
        obtain ⟨hN, hE, -⟩ := HR.out
        rw [joinL_stop uF A gk s bad (.inr hbad)] at hE
        rw [← hE]
        exact ⟨rfl, hN.cur, hN.held.mono nuK h3, hN.ho⟩


theorem known_key : Known 112 := fun _ _ => by kernel_rfl
set_option maxHeartbeats 4000000 in
theorem key1_c (M bc : Nat) (s0 : List UInt8) (hb : bc < M) (hs : s0.length ≤ 1048576) :
    Reads M 112 #[.pointer (some ⟨bc, 0, none⟩)] (fun w => Var w bc 53 (.slice none 0 0)) s0 (loopL kF (s0.length + 1) s0 0).2 (fun w => Held ShL w bc 53 31 2 M (loopL kF (s0.length + 1) s0 0).1) (· = bc) := by
  refine ⟨known_key, fun ra ga w h1 h2 h3 hI hc => ?_⟩
  obtain ⟨Y, hY⟩ : ∃ Y, Y = loopL kF (s0.length + 1) s0 0 := ⟨_, rfl⟩
  rw [← hY]
  have H0 := Lib.hid (And.intro (show NB ShL w ra ga bc 53 31 2 w.heap.size [] s0 0 w from ⟨Held.nil shK hI, hc, Only.refl _ _⟩) hY)
  have hbc := hI.lt
  have hra := hc.lt
  have hga := hc.glt
  clear hI hc hY
  show Calls Try.prog _ #[rp ra, .pointer (some ⟨bc, 0, none⟩)] w _
  go_enter Try.func112, Try.ntmps112
  go_wp2_with fail
  go_loopg [4] (s0.length + 1) (fun n v4 wr => ∃ A s bad, NB ShL w ra ga bc 53 31 2 w.heap.size A s bad wr ∧ joinL A (loopL kF n s bad) = Y ∧ (bad = 0 → s.length < n) ∧ A.length + s.length ≤ s0.length + (if bad = 0 then 0 else 1))
  case atStart => exact ⟨[], s0, 0, H0.out.1, H0.out.2.symm, fun _ => by omega, by simp⟩
  case round =>
    obtain ⟨A, s, bad, hN, hE, hn, hl⟩ := hrel
    have HR := Lib.hid (And.intro hN (And.intro hE (And.intro hn hl)))
    clear hN hE hn hl
    by_cases hs0 : s.length = 0
    · obtain rfl : s = [] := List.eq_nil_of_length_eq_zero hs0
      go_wp2_with (first
        | (go_at_call 82; refine (left_c ra ga [] bad _ HR.out.1.cur).mono ?_; rintro e w1 ⟨rfl, rfl⟩))
      go_end0
      obtain ⟨hN, hE, -⟩ := HR.out
      rw [joinL_stop kF A gk [] bad (.inl rfl)] at hE
      rw [← hE]
      exact ⟨rfl, hN.cur, hN.held.mono shK h3, hN.ho⟩
    · have hpos : 0 < s.length := by omega
      have hposI : (0 : Int) < (s.length : Int) := by omega
      by_cases hbad : bad = 0
      · subst hbad
        have hn := HR.out.2.2.1 rfl
        have hl := HR.out.2.2.2
        rw [if_pos rfl] at hl
        obtain ⟨m, rfl⟩ : ∃ m, gk = m + 1 := ⟨gk - 1, by omega⟩
        have hne : s ≠ [] := by intro h; rw [h] at hs0; exact hs0 rfl
        have hless := kF_less s hne
        have hgo := joinL_go kF A m s hne
        have hE := HR.out.2.1
        rw [hgo] at hE
        have hF : kF s = (((rU s 0 2).1, (vecS (rU s 0 2).2.1 (rU s 0 2).2.2 2 1 64).1), (vecS (rU s 0 2).2.1 (rU s 0 2).2.2 2 1 64).2) := rfl
        have HU := Lib.hid (fun wx (h : Cur wx ra ga s 0) => ruint_c ra ga s 0 2 wx h)
        have hl1 := rU_left s 0 2
        obtain ⟨u1, hu1⟩ : ∃ u, u = rU s 0 2 := ⟨_, rfl⟩
        rw [← hu1] at HU hl1 hF
        obtain ⟨x, s1, b1⟩ := u1
        simp only at HU hl1 hF
        clear hu1
        have HVc := Lib.hid (fun wx (h : Cur wx ra ga s1 b1) => vector_c ra ga s1 b1 2 1 64 wx h (by omega))
        have hl2 := vecS_left s1 b1 2 1 64
        obtain ⟨u2, hu2⟩ : ∃ u, u = vecS s1 b1 2 1 64 := ⟨_, rfl⟩
        rw [← hu2] at HVc hl2 hF
        obtain ⟨ke, s2, b2⟩ := u2
        simp only at HVc hl2 hF
        clear hu2
        rw [hF] at hless hE
        simp only at hless hE
        have HE := Lib.hid hE
        have hs1 := HR.out.1.ho.size
        obtain ⟨p, c, hV, hHP⟩ := HR.out.1.held.parts shK (ra := ra) hbc hra (by omega)
        have c0 := hV.c
        have f0 := hV.fr
        have HP := Lib.hid hHP
        have HPV := Lib.hid (fun (w1 : World) (ho : Only (· = ra) wr w1) => hV.only ho (by omega))
        have HC := Lib.hid HR.out.1.cur
        have HO := Lib.hid HR.out.1.ho
        have HVd := Lib.hid (show Cur wr.drew ra ga s 0 from HC.out.only ((Only.refl (fun _ => False) wr).drew) (fun h => h) (fun h => h))
        clear hF hgo hE hV hne hHP
        go_wp2_with (first
          | (go_at_call 82; refine (left_c ra ga s 0 _ HC.out).mono ?_; rintro e w1 ⟨rfl, rfl⟩)
          | (go_at_call 83; refine (isWrong_c ra ga s 0 _ HC.out).mono ?_; rintro e w1 ⟨rfl, rfl⟩))
        go_region_law (first
          | (refine step_append_row rfl _ _ 53 rfl 31 (.agg #[.int .i64 0, .slice none 0 0]) 2 32 Try.underlying53 Try.infoShE rfl (by decide) g3 (.slice p A.length c) A.length L (by simp [Act.eval, Act.put]) (Row.only HG.out.2.1 (Only.of_below (r := fun _ => False) HB.out) (fun h => h)) ⟨w2.heap.size, 0, none⟩ 1 1 [.int .i64 x, .slice kp ke.length kc] (by simp [Act.eval, Act.put]) rfl (cell_two w2 _ _ _) (by simp [Value.oneCell']) (by simp only [maxLen]; omega) (by omega) (w2.heap.size + 1) (by simp) ?_; intro g2 v2 w5 hrow hg2 hO5; have hO15 : Only (· = g3) w2 w5 := (Only.of_below (r := fun k => k = g3) HB.out).then hO5; have hV5 := HG.out.1.only hO15 (by omega); have c5 := hV5.c; have f5 := hV5.fr; obtain ⟨p5, k5, rfl, -⟩ := Row.form hrow; have H5 := Lib.hid (And.intro hrow (And.intro hO15 hV5)); clear hrow hO5 hO15 hV5)
          | (go_simp; go_at_call 45; refine (HVc.out _ H1.out.1).mono ?_; rintro e w2 ⟨kg, kp, kc, rfl, hkg, hKO, hc, hoq⟩; have hoo : Only (· = ra) wr w2 := H1.out.2.then hoq; have q2 := HPV.out w2 hoo; have c2 := q2.c; have f2 := q2.fr; have hb2 : Below w2.heap.size w2 (w2.alloc (.cells #[.int .i64 x, .slice kp ke.length kc] 31)) := (Below.refl _ _).alloc (Nat.le_refl _) _; have ca2 : (w2.alloc (.cells #[.int .i64 x, .slice kp ke.length kc] 31)).cell? ⟨bc, 0, none⟩ = some (.slice p A.length c) := (q2.below hb2).c; have HB := Lib.hid hb2; obtain ⟨g3, L, hv3, hr3, hp3, hM3, hg3⟩ := HP.out w2 hoo; have HG := Lib.hid (And.intro hv3 (And.intro hr3 hp3)); clear hb2 hv3 hr3 hp3; have hkz : wr.heap.size ≤ kg := Nat.le_trans H1.out.2.size hkg; have hkl : kg < w2.heap.size ∨ ke.length = 0 := own_lt hKO; have HK := Lib.hid (And.intro hKO hkz); have H2 := Lib.hid (And.intro hc hoo); have hz2 := hoo.size; clear q2 hoq hc hoo hKO)
          | (go_simp; go_at_call 46; refine (HU.out _ HVd.out).mono ?_; rintro e w1 ⟨rfl, hc, hoq⟩; have hoo : Only (· = ra) wr w1 := ⟨hoq.os, hoq.tape, hoq.output, hoq.size, hoq.block⟩; have q1 := HPV.out w1 hoo; have c1 := q1.c; have f1 := q1.fr; have H1 := Lib.hid (And.intro hc hoo); have hz1 := hoo.size; clear q1 hoq hc hoo))
        all_goals
          have hN6 : NB ShL w ra ga bc 53 31 2 w.heap.size (A ++ [(x, ke)]) s2 b2 (w5.setCell ⟨bc, 0, none⟩ (.slice p5 (A.length + 1) k5)) :=
            ⟨Held.step shK HG.out.2.2 hM3 hg3 (by omega) hs1 H5.out.2.2 H5.out.1 hg2 H5.out.2.1 hbc (fun S w' hS ho h => h.push (x, ke) kp ke.length kc rfl (rd_new HK.out.1 HK.out.2 hkl hS ho (by intro h; omega) (by omega)) (own_nilc HK.out.1)),
              (H2.out.1.only H5.out.2.1 (by omega) (by omega)).only ((Only.refl (fun k => k = bc) w5).setCell _ _ (.inl rfl)) (by omega) (by omega), only_loop HO.out H2.out.2 H5.out.2.1 hM3⟩
          go_wp2
          go_roundg m
          case measure => omega
          case rel =>
            refine ⟨A ++ [(x, ke)], s2, b2, hN6, HE.out, ?_, ?_⟩
            · intro h0
              rcases hless with h | h
              · omega
              · exact absurd h0 h
            · rw [List.length_append, List.length_singleton]
              rcases hless with h | h
              · split <;> omega
              · rw [if_neg h]; omega
      · have hbb : (bad != 0) = true := by simpa using hbad
        have hbd : decide (bad ≠ 0) = true := decide_eq_true hbad
        go_wp2_with (first
          | (go_at_call 82; refine (left_c ra ga s bad _ HR.out.1.cur).mono ?_; rintro e w1 ⟨rfl, rfl⟩)
          | (go_at_call 83; refine (isWrong_c ra ga s bad _ HR.out.1.cur).mono ?_; rintro e w1 ⟨rfl, rfl⟩))
        go_end0
        obtain ⟨hN, hE, -⟩ := HR.out
        rw [joinL_stop kF A gk s bad (.inr hbad)] at hE
        rw [← hE]
        exact ⟨rfl, hN.cur, hN.held.mono shK h3, hN.ho⟩


theorem known_tic : Known 113 := fun _ _ => by kernel_rfl
set_option maxHeartbeats 4000000 in
theorem tic1_c (M bc : Nat) (s0 : List UInt8) (hb : bc < M) (hs : s0.length ≤ 1048576) :
    Reads M 113 #[.pointer (some ⟨bc, 0, none⟩)] (fun w => Var w bc 54 (.slice none 0 0)) s0 (loopL iF (s0.length + 1) s0 0).2 (fun w => Held IdL w bc 54 104 2 M (loopL iF (s0.length + 1) s0 0).1) (· = bc) := by
  refine ⟨known_tic, fun ra ga w h1 h2 h3 hI hc => ?_⟩
  obtain ⟨Y, hY⟩ : ∃ Y, Y = loopL iF (s0.length + 1) s0 0 := ⟨_, rfl⟩
  rw [← hY]
  have H0 := Lib.hid (And.intro (show NB IdL w ra ga bc 54 104 2 w.heap.size [] s0 0 w from ⟨Held.nil idK hI, hc, Only.refl _ _⟩) hY)
  have hbc := hI.lt
  have hra := hc.lt
  have hga := hc.glt
  clear hI hc hY
  show Calls Try.prog _ #[rp ra, .pointer (some ⟨bc, 0, none⟩)] w _
  go_enter Try.func113, Try.ntmps113
  go_wp2_with fail
  go_loopg [4] (s0.length + 1) (fun n v4 wr => ∃ A s bad, NB IdL w ra ga bc 54 104 2 w.heap.size A s bad wr ∧ joinL A (loopL iF n s bad) = Y ∧ (bad = 0 → s.length < n) ∧ A.length + s.length ≤ s0.length + (if bad = 0 then 0 else 1))
  case atStart => exact ⟨[], s0, 0, H0.out.1, H0.out.2.symm, fun _ => by omega, by simp⟩
  case round =>
    obtain ⟨A, s, bad, hN, hE, hn, hl⟩ := hrel
    have HR := Lib.hid (And.intro hN (And.intro hE (And.intro hn hl)))
    clear hN hE hn hl
    by_cases hs0 : s.length = 0
    · obtain rfl : s = [] := List.eq_nil_of_length_eq_zero hs0
      go_wp2_with (first
        | (go_at_call 82; refine (left_c ra ga [] bad _ HR.out.1.cur).mono ?_; rintro e w1 ⟨rfl, rfl⟩))
      go_end0
      obtain ⟨hN, hE, -⟩ := HR.out
      rw [joinL_stop iF A gk [] bad (.inl rfl)] at hE
      rw [← hE]
      exact ⟨rfl, hN.cur, hN.held.mono idK h3, hN.ho⟩
    · have hpos : 0 < s.length := by omega
      have hposI : (0 : Int) < (s.length : Int) := by omega
      by_cases hbad : bad = 0
      · subst hbad
        have hn := HR.out.2.2.1 rfl
        have hl := HR.out.2.2.2
        rw [if_pos rfl] at hl
        obtain ⟨m, rfl⟩ : ∃ m, gk = m + 1 := ⟨gk - 1, by omega⟩
        have hne : s ≠ [] := by intro h; rw [h] at hs0; exact hs0 rfl
        have hless := iF_less s hne
        have hgo := joinL_go iF A m s hne
        have hE := HR.out.2.1
        rw [hgo] at hE
        have hF : iF s = (((vecS s 0 2 1 255).1, (rU (vecS s 0 2 1 255).2.1 (vecS s 0 2 1 255).2.2 4).1), (rU (vecS s 0 2 1 255).2.1 (vecS s 0 2 1 255).2.2 4).2) := rfl
        have HVc := Lib.hid (fun wx (h : Cur wx ra ga s 0) => vector_c ra ga s 0 2 1 255 wx h (by omega))
        have hl1 := vecS_left s 0 2 1 255
        obtain ⟨u1, hu1⟩ : ∃ u, u = vecS s 0 2 1 255 := ⟨_, rfl⟩
        rw [← hu1] at HVc hl1 hF
        obtain ⟨ke, s1, b1⟩ := u1
        simp only at HVc hl1 hF
        clear hu1
        have HU := Lib.hid (fun wx (h : Cur wx ra ga s1 b1) => ruint_c ra ga s1 b1 4 wx h)
        have hl2 := rU_left s1 b1 4
        obtain ⟨u2, hu2⟩ : ∃ u, u = rU s1 b1 4 := ⟨_, rfl⟩
        rw [← hu2] at HU hl2 hF
        obtain ⟨x, s2, b2⟩ := u2
        simp only at HU hl2 hF
        clear hu2
        rw [hF] at hless hE
        simp only at hless hE
        have HE := Lib.hid hE
        have hs1 := HR.out.1.ho.size
        obtain ⟨p, c, hV, hHP⟩ := HR.out.1.held.parts idK (ra := ra) hbc hra (by omega)
        have c0 := hV.c
        have f0 := hV.fr
        have HP := Lib.hid hHP
        have HPV := Lib.hid (fun (w1 : World) (ho : Only (· = ra) wr w1) => hV.only ho (by omega))
        have HC := Lib.hid HR.out.1.cur
        have HO := Lib.hid HR.out.1.ho
        have HVd := Lib.hid (show Cur wr.drew ra ga s 0 from HC.out.only ((Only.refl (fun _ => False) wr).drew) (fun h => h) (fun h => h))
        clear hF hgo hE hV hne hHP
        go_wp2_with (first
          | (go_at_call 82; refine (left_c ra ga s 0 _ HC.out).mono ?_; rintro e w1 ⟨rfl, rfl⟩)
          | (go_at_call 83; refine (isWrong_c ra ga s 0 _ HC.out).mono ?_; rintro e w1 ⟨rfl, rfl⟩))
        go_region_law (first
          | (refine step_append_row rfl _ _ 54 rfl 104 (.agg #[.slice none 0 0, .int .i64 0]) 2 32 Try.underlying54 Try.infoIdE rfl (by decide) g3 (.slice p A.length c) A.length L (by simp [Act.eval, Act.put]) (Row.only HG.out.2.1 (Only.of_below (r := fun _ => False) HB.out) (fun h => h)) ⟨w2.heap.size, 0, none⟩ 1 1 [.slice kp ke.length kc, .int .i64 x] (by simp [Act.eval, Act.put]) rfl (cell_two w2 _ _ _) (by simp [Value.oneCell']) (by simp only [maxLen]; omega) (by omega) (w2.heap.size + 1) (by simp) ?_; intro g2 v2 w5 hrow hg2 hO5; have hO15 : Only (· = g3) w2 w5 := (Only.of_below (r := fun k => k = g3) HB.out).then hO5; have hV5 := HG.out.1.only hO15 (by omega); have c5 := hV5.c; have f5 := hV5.fr; obtain ⟨p5, k5, rfl, -⟩ := Row.form hrow; have H5 := Lib.hid (And.intro hrow (And.intro hO15 hV5)); clear hrow hO5 hO15 hV5)
          | (go_simp; go_at_call 46; refine (HU.out _ H1.out.1).mono ?_; rintro e w2 ⟨rfl, hc, hoq⟩; have hoo : Only (· = ra) wr w2 := H1.out.2.then hoq; have q2 := HPV.out w2 hoo; have c2 := q2.c; have f2 := q2.fr; have hb2 : Below w2.heap.size w2 (w2.alloc (.cells #[.slice kp ke.length kc, .int .i64 x] 104)) := (Below.refl _ _).alloc (Nat.le_refl _) _; have ca2 : (w2.alloc (.cells #[.slice kp ke.length kc, .int .i64 x] 104)).cell? ⟨bc, 0, none⟩ = some (.slice p A.length c) := (q2.below hb2).c; have HB := Lib.hid hb2; obtain ⟨g3, L, hv3, hr3, hp3, hM3, hg3⟩ := HP.out w2 hoo; have HG := Lib.hid (And.intro hv3 (And.intro hr3 hp3)); clear hb2 hv3 hr3 hp3; have HK2 := Lib.hid (HK.out.1.only hoq (by have := HK.out.2; omega)); have hkl2 := own_lt HK2.out; have H2 := Lib.hid (And.intro hc hoo); have hz2 := hoo.size; clear q2 hoq hc hoo)
          | (go_simp; go_at_call 45; refine (HVc.out _ HVd.out).mono ?_; rintro e w1 ⟨kg, kp, kc, rfl, hkg, hKO, hc, hoq⟩; have hoo : Only (· = ra) wr w1 := ⟨hoq.os, hoq.tape, hoq.output, hoq.size, hoq.block⟩; have q1 := HPV.out w1 hoo; have c1 := q1.c; have f1 := q1.fr; have hkz : wr.heap.size ≤ kg := hkg; have hkl : kg < w1.heap.size ∨ ke.length = 0 := own_lt hKO; have HK := Lib.hid (And.intro hKO hkz); have H1 := Lib.hid (And.intro hc hoo); have hz1 := hoo.size; clear q1 hoq hc hoo hKO))
        all_goals
          have hN6 : NB IdL w ra ga bc 54 104 2 w.heap.size (A ++ [(ke, x)]) s2 b2 (w5.setCell ⟨bc, 0, none⟩ (.slice p5 (A.length + 1) k5)) :=
            ⟨Held.step idK HG.out.2.2 hM3 hg3 (by omega) hs1 H5.out.2.2 H5.out.1 hg2 H5.out.2.1 hbc (fun S w' hS ho h => h.push (ke, x) kp ke.length kc rfl (rd_new HK2.out hkz hkl2 hS ho (by intro h; omega) (by omega)) (own_nilc HK2.out)),
              (H2.out.1.only H5.out.2.1 (by omega) (by omega)).only ((Only.refl (fun k => k = bc) w5).setCell _ _ (.inl rfl)) (by omega) (by omega), only_loop HO.out H2.out.2 H5.out.2.1 hM3⟩
          go_wp2
          go_roundg m
          case measure => omega
          case rel =>
            refine ⟨A ++ [(ke, x)], s2, b2, hN6, HE.out, ?_, ?_⟩
            · intro h0
              rcases hless with h | h
              · omega
              · exact absurd h0 h
            · rw [List.length_append, List.length_singleton]
              rcases hless with h | h
              · split <;> omega
              · rw [if_neg h]; omega
      · have hbb : (bad != 0) = true := by simpa using hbad
        have hbd : decide (bad ≠ 0) = true := decide_eq_true hbad
        go_wp2_with (first
          | (go_at_call 82; refine (left_c ra ga s bad _ HR.out.1.cur).mono ?_; rintro e w1 ⟨rfl, rfl⟩)
          | (go_at_call 83; refine (isWrong_c ra ga s bad _ HR.out.1.cur).mono ?_; rintro e w1 ⟨rfl, rfl⟩))
        go_end0
        obtain ⟨hN, hE, -⟩ := HR.out
        rw [joinL_stop iF A gk s bad (.inr hbad)] at hE
        rw [← hE]
        exact ⟨rfl, hN.cur, hN.held.mono idK h3, hN.ho⟩


theorem known_bin : Known 114 := fun _ _ => by kernel_rfl
set_option maxHeartbeats 4000000 in
theorem bin1_c (M bc : Nat) (s0 : List UInt8) (hb : bc < M) (hs : s0.length ≤ 1048576) :
    Reads M 114 #[.pointer (some ⟨bc, 0, none⟩)] (fun w => Var w bc 46 (.slice none 0 0)) s0 (loopL bF (s0.length + 1) s0 0).2 (fun w => Held BdL w bc 46 23 1 M (loopL bF (s0.length + 1) s0 0).1) (· = bc) := by
  refine ⟨known_bin, fun ra ga w h1 h2 h3 hI hc => ?_⟩
  obtain ⟨Y, hY⟩ : ∃ Y, Y = loopL bF (s0.length + 1) s0 0 := ⟨_, rfl⟩
  rw [← hY]
  have H0 := Lib.hid (And.intro (show NB BdL w ra ga bc 46 23 1 w.heap.size [] s0 0 w from ⟨Held.nil bdK hI, hc, Only.refl _ _⟩) hY)
  have hbc := hI.lt
  have hra := hc.lt
  have hga := hc.glt
  clear hI hc hY
  show Calls Try.prog _ #[rp ra, .pointer (some ⟨bc, 0, none⟩)] w _
  go_enter Try.func114, Try.ntmps114
  go_wp2_with fail
  go_loopg [4] (s0.length + 1) (fun n v4 wr => ∃ A s bad, NB BdL w ra ga bc 46 23 1 w.heap.size A s bad wr ∧ joinL A (loopL bF n s bad) = Y ∧ (bad = 0 → s.length < n) ∧ A.length + s.length ≤ s0.length + (if bad = 0 then 0 else 1))
  case atStart => exact ⟨[], s0, 0, H0.out.1, H0.out.2.symm, fun _ => by omega, by simp⟩
  case round =>
    obtain ⟨A, s, bad, hN, hE, hn, hl⟩ := hrel
    have HR := Lib.hid (And.intro hN (And.intro hE (And.intro hn hl)))
    clear hN hE hn hl
    by_cases hs0 : s.length = 0
    · obtain rfl : s = [] := List.eq_nil_of_length_eq_zero hs0
      go_wp2_with (first
        | (go_at_call 82; refine (left_c ra ga [] bad _ HR.out.1.cur).mono ?_; rintro e w1 ⟨rfl, rfl⟩))
      go_end0
      obtain ⟨hN, hE, -⟩ := HR.out
      rw [joinL_stop bF A gk [] bad (.inl rfl)] at hE
      rw [← hE]
      exact ⟨rfl, hN.cur, hN.held.mono bdK h3, hN.ho⟩
    · have hpos : 0 < s.length := by omega
      have hposI : (0 : Int) < (s.length : Int) := by omega
      by_cases hbad : bad = 0
      · subst hbad
        have hn := HR.out.2.2.1 rfl
        have hl := HR.out.2.2.2
        rw [if_pos rfl] at hl
        obtain ⟨m, rfl⟩ : ∃ m, gk = m + 1 := ⟨gk - 1, by omega⟩
        have hne : s ≠ [] := by intro h; rw [h] at hs0; exact hs0 rfl
        have hless := bF_less s hne
        have hgo := joinL_go bF A m s hne
        have hE := HR.out.2.1
        rw [hgo] at hE
        have hF : bF s = vecS s 0 1 32 32 := rfl
        have HVc := Lib.hid (fun wx (h : Cur wx ra ga s 0) => vector_c ra ga s 0 1 32 32 wx h (by omega))
        have hl1 := vecS_left s 0 1 32 32
        obtain ⟨u1, hu1⟩ : ∃ u, u = vecS s 0 1 32 32 := ⟨_, rfl⟩
        rw [← hu1] at HVc hl1 hF
        obtain ⟨ke, s1, b1⟩ := u1
        simp only at HVc hl1 hF
        clear hu1
        rw [hF] at hless hE
        simp only at hless hE
        have HE := Lib.hid hE
        have hs1 := HR.out.1.ho.size
        obtain ⟨p, c, hV, hHP⟩ := HR.out.1.held.parts bdK (ra := ra) hbc hra (by omega)
        have c0 := hV.c
        have f0 := hV.fr
        have HP := Lib.hid hHP
        have HPV := Lib.hid (fun (w1 : World) (ho : Only (· = ra) wr w1) => hV.only ho (by omega))
        have HC := Lib.hid HR.out.1.cur
        have HO := Lib.hid HR.out.1.ho
        have HVd := Lib.hid (show Cur wr.drew ra ga s 0 from HC.out.only ((Only.refl (fun _ => False) wr).drew) (fun h => h) (fun h => h))
        clear hF hgo hE hV hne hHP
        go_wp2_with (first
          | (go_at_call 82; refine (left_c ra ga s 0 _ HC.out).mono ?_; rintro e w1 ⟨rfl, rfl⟩)
          | (go_at_call 83; refine (isWrong_c ra ga s 0 _ HC.out).mono ?_; rintro e w1 ⟨rfl, rfl⟩))
        go_region_law (first
          | (refine step_append_row rfl _ _ 46 rfl 23 (.slice none 0 0) 1 24 Try.underlying46 Try.infoBsE rfl (by decide) g3 (.slice p A.length c) A.length L (by simp [Act.eval, Act.put]) (Row.only HG.out.2.1 (Only.of_below (r := fun _ => False) HB.out) (fun h => h)) ⟨w1.heap.size, 0, none⟩ 1 1 [.slice kp ke.length kc] (by simp [Act.eval, Act.put]) rfl (cell_one w1 _ _) (by simp [Value.oneCell']) (by simp only [maxLen]; omega) (by omega) (w1.heap.size + 1) (by simp) ?_; intro g2 v2 w5 hrow hg2 hO5; have hO15 : Only (· = g3) w1 w5 := (Only.of_below (r := fun k => k = g3) HB.out).then hO5; have hV5 := HG.out.1.only hO15 (by omega); have c5 := hV5.c; have f5 := hV5.fr; obtain ⟨p5, k5, rfl, -⟩ := Row.form hrow; have H5 := Lib.hid (And.intro hrow (And.intro hO15 hV5)); clear hrow hO5 hO15 hV5)
          | (go_simp; go_at_call 45; refine (HVc.out _ HVd.out).mono ?_; rintro e w1 ⟨kg, kp, kc, rfl, hkg, hKO, hc, hoq⟩; have hoo : Only (· = ra) wr w1 := ⟨hoq.os, hoq.tape, hoq.output, hoq.size, hoq.block⟩; have q1 := HPV.out w1 hoo; have c1 := q1.c; have f1 := q1.fr; have hb1 : Below w1.heap.size w1 (w1.alloc (.cells #[.slice kp ke.length kc] 23)) := (Below.refl _ _).alloc (Nat.le_refl _) _; have ca1 : (w1.alloc (.cells #[.slice kp ke.length kc] 23)).cell? ⟨bc, 0, none⟩ = some (.slice p A.length c) := (q1.below hb1).c; have HB := Lib.hid hb1; obtain ⟨g3, L, hv3, hr3, hp3, hM3, hg3⟩ := HP.out w1 hoo; have HG := Lib.hid (And.intro hv3 (And.intro hr3 hp3)); clear hb1 hv3 hr3 hp3; have hkz : wr.heap.size ≤ kg := hkg; have hkl : kg < w1.heap.size ∨ ke.length = 0 := own_lt hKO; have HK := Lib.hid (And.intro hKO hkz); have H1 := Lib.hid (And.intro hc hoo); have hz1 := hoo.size; clear q1 hoq hc hoo hKO))
        all_goals
          have hN6 : NB BdL w ra ga bc 46 23 1 w.heap.size (A ++ [ke]) s1 b1 (w5.setCell ⟨bc, 0, none⟩ (.slice p5 (A.length + 1) k5)) :=
            ⟨Held.step bdK HG.out.2.2 hM3 hg3 (by omega) hs1 H5.out.2.2 H5.out.1 hg2 H5.out.2.1 hbc (fun S w' hS ho h => h.push ke kp ke.length kc rfl (rd_new HK.out.1 HK.out.2 hkl hS ho (by intro h; omega) (by omega)) (own_nilc HK.out.1)),
              (H1.out.1.only H5.out.2.1 (by omega) (by omega)).only ((Only.refl (fun k => k = bc) w5).setCell _ _ (.inl rfl)) (by omega) (by omega), only_loop HO.out H1.out.2 H5.out.2.1 hM3⟩
          go_wp2
          go_roundg m
          case measure => omega
          case rel =>
            refine ⟨A ++ [ke], s1, b1, hN6, HE.out, ?_, ?_⟩
            · intro h0
              rcases hless with h | h
              · omega
              · exact absurd h0 h
            · rw [List.length_append, List.length_singleton]
              rcases hless with h | h
              · split <;> omega
              · rw [if_neg h]; omega
      · have hbb : (bad != 0) = true := by simpa using hbad
        have hbd : decide (bad ≠ 0) = true := decide_eq_true hbad
        go_wp2_with (first
          | (go_at_call 82; refine (left_c ra ga s bad _ HR.out.1.cur).mono ?_; rintro e w1 ⟨rfl, rfl⟩)
          | (go_at_call 83; refine (isWrong_c ra ga s bad _ HR.out.1.cur).mono ?_; rintro e w1 ⟨rfl, rfl⟩))
        go_end0
        obtain ⟨hN, hE, -⟩ := HR.out
        rw [joinL_stop bF A gk s bad (.inr hbad)] at hE
        rw [← hE]
        exact ⟨rfl, hN.cur, hN.held.mono bdK h3, hN.ho⟩

end Go.Proofs.Ytegmimnhkohaoaa
