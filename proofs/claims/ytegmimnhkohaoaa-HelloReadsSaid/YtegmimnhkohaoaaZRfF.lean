/-
  The contract of relayref08.clientExt at shares. Condition: at most 2 to the 46th bytes.
-/
import Derived.Test.YtegmimnhkohaoaaZg9
namespace Go.Proofs.Ytegmimnhkohaoaa
open Go.RowKit Go.Kx
set_option linter.unusedVariables false
set_option linter.unusedSimpArgs false
set_option maxRecDepth 100000

theorem rfu_c (r g : Nat) (L s : List UInt8) (bad W : Int) (w : World) (hr : Rf w r g L s bad) (hl : L.length ≤ 140737488355328) : Calls Try.prog 57 #[rp r, .int .i64 W] w fun e w' => e = .returned (.int .i64 (rU s bad W).1) ∧ Rf w' r g L (rU s bad W).2.1 (rU s bad W).2.2 ∧ Only (· = r) w w' := rfuint_c r g L s bad W w hr hl
theorem Rf.c2 {w : World} {r g : Nat} {L s : List UInt8} {bad : Int} (h : Rf w r g L s bad) : w.cell? ⟨r, 2, none⟩ = some (.int .i64 bad) := by
  obtain ⟨_, _, _, _, _, _, _, hb, _⟩ := h.ex
  exact hb.c2
theorem KJ.quiet {w3 wx wy : World} {q0 r2 g2 r g M : Nat} {S : Nat → Prop} {st : Cl} {z : Z10} {B b s1 s : List UInt8} {b1 bad : Int} {A : List (Int × List UInt8)} (h : KJ w3 q0 r2 g2 r g M S st z B b s1 b1 A s bad wx) (ho : Only (fun _ => False) wx wy) : KJ w3 q0 r2 g2 r g M S st z B b s1 b1 A s bad wy :=
  ⟨h.held.only shK ho (fun h => h) (fun _ _ _ h => h), h.i.only ho (fun _ _ h => h), h.inn.only ho (fun h => h) (fun h => h), h.out.only ho (fun h => h) (fun h => h), h.ho.then (ho.mono (fun _ _ h => h.elim))⟩
def RceK (q0 : Nat) (S : Nat → Prop) (w : World) (z0 : Z10) (y : Cl × Bool) (e : Ending) (w' : World) : Prop := e = .returned (.bool y.2) ∧ (∃ z, CB w' q0 (fun k => S k ∨ w.heap.size ≤ k) y.1 z ∧ z.p9 = z0.p9 ∧ z.n9 = z0.n9 ∧ z.c9 = z0.c9 ∧ z.p10 = z0.p10 ∧ z.n10 = z0.n10 ∧ z.c10 = z0.c10) ∧ Only (· = q0) w w'
theorem zero6 {z : Z10} (h1 : z.p6 = none) (h2 : z.n6 = 0) (h3 : z.c6 = 0) : z = z.u6 none 0 0 := by
  obtain ⟨p1, n1, c1, p2, n2, c2, p3, n3, c3, p4, n4, c4, p5, n5, c5, p6, n6, c6, p7, n7, c7, p8, n8, c8, p9, n9, c9, p10, n10, c10⟩ := z
  simp only at h1 h2 h3
  subst h1 h2 h3
  rfl
/-- What the loop leaves, put together. -/
theorem k51_end {w w3 w9 : World} {q0 r2 r : Nat} {S : Nat → Prop} {st : Cl} {z : Z10} {s1 : List UInt8} {b1 bad dd : Int} {is : Bool} {A : List (Int × List UInt8)} {t : List UInt8} {Y : List (Int × List UInt8) × List UInt8 × Int} (hS0 : ¬ S q0) (hlen : st.R.length = 32) (hq : q0 < w.heap.size) (hw3 : w.heap.size ≤ w3.heap.size) (hr : w.heap.size ≤ r) (hr2 : w.heap.size < r2)
    (his : is = decide (dd ≠ 0 ∨ A.length < 1 ∨ 4 < A.length) ∧ dd = doneS t bad) (hY : (A, t, bad) = Y) (h0 : Only (fun _ => False) w w3)
    (hH : HeldC ShL (fun p n c => clV st (z.u6 p n c)) w9 q0 48 25 2 w3.heap.size A) (hI : IsCl w9 (fun k => S k ∧ k < w.heap.size) st z) (ho : Only (fun k => k = r2 ∨ k = q0 ∨ k = r) w3 w9) :
    RceK q0 S w z ({ st with shs := Y.1 }, doneB s1 (failB b1 (decide (doneS Y.2.1 Y.2.2 ≠ 0 ∨ Y.1.length < 1 ∨ 4 < Y.1.length)))) (.returned (.bool (doneS s1 (failB b1 is) == 0))) w9 := by
  subst hY
  obtain ⟨his, hdd⟩ := his
  refine ⟨?_, ?_, (h0.mono (fun _ _ h => h.elim)).trans ho (fun _ h => h) (fun k hk h => by omega)⟩
  · rw [his, hdd]
    exact congrArg Ending.returned (congrArg Value.bool done_eq)
  · obtain ⟨p6, c6, g6, L, hb, hR, hM, hL, _⟩ := hH
    obtain ⟨p', c', he, hat⟩ := hL.at hR
    cases he
    have hm := hI.mono (T := fun k => S k ∨ w.heap.size ≤ k) (fun _ _ h => .inl h.1)
    exact ⟨z.u6 p6 A.length c6, ⟨hb, ⟨hm.len, hm.s1, hm.s2, hm.s3, hm.s4, hm.s5, ⟨rfl, hat.1.mono (fun k _ h => by rcases h with h | h; exact .inr (by omega); exact .inr (by omega)), hat.2⟩, hm.s7, hm.s8, hm.s9, hm.s10⟩⟩, rfl, rfl, rfl, rfl, rfl, rfl⟩

set_option maxHeartbeats 8000000 in
theorem rce51 (q0 : Nat) (w : World) (S : Nat → Prop) (st : Cl) (z : Z10) (gb : Nat) (p : Option Addr) (c : Nat) (s : List UInt8) (last : Bool) (hA : CB w q0 S st z) (hS0 : ¬ S q0) (hO : Own w gb (.slice p s.length c) s) (hgb : gb ≠ q0) (gx : Nat) (hgx : gx < w.heap.size) (hgx0 : gx ≠ q0) (hl : s.length ≤ 140737488355328) (h6p : z.p6 = none) (h6n : z.n6 = 0) (h6c : z.c6 = 0) :
    Calls Try.prog 104 #[rp q0, .int .i64 51, .slice p s.length c, .bool last] w (RceK q0 S w z (rcliF st 51 s last)) := by
  have hF : rcliF st 51 s last = ({ st with shs := (rKeys s).1 }, (rKeys s).2) := rfl
  have hlen := hA.i.len
  rw [hF]
  have hK : rKeys s = ((loopL kF ((vecS s 0 2 0 65535).1.length + 1) (vecS s 0 2 0 65535).1 0).1, doneB (vecS s 0 2 0 65535).2.1 (failB (vecS s 0 2 0 65535).2.2 (decide (doneS (loopL kF ((vecS s 0 2 0 65535).1.length + 1) (vecS s 0 2 0 65535).1 0).2.1 (loopL kF ((vecS s 0 2 0 65535).1.length + 1) (vecS s 0 2 0 65535).1 0).2.2 ≠ 0 ∨ (loopL kF ((vecS s 0 2 0 65535).1.length + 1) (vecS s 0 2 0 65535).1 0).1.length < 1 ∨ 4 < (loopL kF ((vecS s 0 2 0 65535).1.length + 1) (vecS s 0 2 0 65535).1 0).1.length)))) := rfl
  rw [hK]
  clear hF hK
  obtain ⟨g, r, w1, hr, hw1, hz1, hgq, hrq, hgl, hRf, hB1, hA1⟩ := ext_new hA hO hgb gx hgx hgx0
  have hsh : (vecS s 0 2 0 65535).1.length ≤ 65535 := vecS_short s 0 2 0 65535
  have HU := Lib.hid (fun wx (h : Rf wx r g s s 0) => rvector_c r g s s 0 2 0 65535 wx h hl)
  generalize vecS s 0 2 0 65535 = v at *
  obtain ⟨B, s1, b1⟩ := v
  simp only at hsh HU ⊢
  obtain ⟨Y, hY⟩ : ∃ Y, Y = loopL kF (B.length + 1) B 0 := ⟨_, rfl⟩
  rw [← hY]
  have hlt := hA.b.lt
  have hz6 := zero6 h6p h6n h6c
  have HY := Lib.hid (And.intro hY hz6)
  have HA := Lib.hid (And.intro hA1 (And.intro hRf hB1))
  clear hA hA1 hO hRf hB1 hY hz6 h6p h6n h6c
  go_enter Try.func104, Try.ntmps104
  go_upto_region 2 with (fail)
  rw [← hw1, ← hr]
  have hrge : w.heap.size ≤ r := by omega
  have hrlt : r < w1.heap.size := by omega
  have hwz : w.heap.size < w1.heap.size := by omega
  clear hw1 hr hz1
  go_upto_region 16 with (go_at_call 60; refine (HU.out _ HA.out.2.1).mono ?_; rintro e w2 ⟨g', p1, c1, rfl, hg', hO1, hc, ho⟩; have H2 := Lib.hid (And.intro hO1 (And.intro hc ho)); have hz2 := ho.size; clear hO1 hc ho)
  obtain ⟨hpn, hnc, hcm⟩ : (p1 = none → c1 = 0) ∧ B.length ≤ c1 ∧ c1 ≤ maxLen := by
    obtain ⟨p', c', he, h1, h2, _, h3, _⟩ := H2.out.1.form
    cases he
    exact ⟨h3, h1, h2⟩
  obtain ⟨gi, hgi, hgo, hRi⟩ := Rf.new (q := gx) H2.out.1.rd rfl hpn (own_spot H2.out.1) hnc hcm (by omega)
  have hB3 : Below w2.heap.size w2 (w2.alloc (.cells #[.slice p1 B.length c1, .int .i64 0, .int .i64 0] 109)) := (Below.refl _ _).alloc (Nat.le_refl _) _
  have hz3 := World.size_alloc w2 (.cells #[.slice p1 B.length c1, .int .i64 0, .int .i64 0] 109)
  have hgi0 : gi ≠ q0 := by
    rcases hgo with h | ⟨o, h⟩
    · omega
    · obtain ⟨p', c', he, _, _, _, _, h3⟩ := H2.out.1.form
      cases he
      obtain ⟨h4, _⟩ := h3 _ h
      cases h4
      omega
  generalize w2.alloc (.cells #[.slice p1 B.length c1, .int .i64 0, .int .i64 0] 109) = w3 at *
  have hA3 : CB w3 q0 (fun k => S k ∧ k < w.heap.size) st z := (HA.out.1.only H2.out.2.2 (fun k hk => by subst hk; exact ⟨fun h => by omega, hrq⟩)).only (Only.of_below (r := fun _ => False) hB3) (fun _ h => h.elim)
  have hO3 : Only (fun _ => False) w w3 := ((Only.of_below HA.out.2.2).trans (H2.out.2.2.then (Only.of_below hB3)) (fun _ h => h) (fun k hk h => by omega))
  have hK3 : KJ w3 q0 w2.heap.size gi r g w3.heap.size (fun k => S k ∧ k < w.heap.size) st z B s s1 b1 [] B 0 w3 :=
    ⟨HeldC.nil shK (by show Blk w3 q0 _ (clV st (z.u6 none 0 0)); rw [← HY.out.2]; exact hA3.b), hA3.i, hRi, H2.out.2.1.only (Only.of_below (r := fun _ => False) hB3) (fun h => h) (fun h => h), Only.refl _ _⟩
  have K3 := Lib.hid (And.intro hK3 hO3)
  obtain ⟨r2, hr2⟩ : ∃ r2, r2 = w2.heap.size := ⟨_, rfl⟩
  rw [← hr2] at K3 ⊢
  have h2a : r < r2 := by omega
  have h2b : r2 < w3.heap.size := by omega
  have h2c : gi < r2 := by omega
  have h2d : g < r2 := by omega
  have h2e : q0 < r := by omega
  have h2f : q0 < w.heap.size := hlt
  have h2g : w.heap.size ≤ w3.heap.size := by omega
  have h2h : w.heap.size < r2 := by omega
  clear hB3 hA3 hO3 hK3 hRi hgo hgi hz3 hr2 hpn hnc hcm HA H2 hz2 hg' hwz
  go_loopg [11] (B.length + 1) (fun n v11 wr => ∃ A t bad, KJ w3 q0 r2 gi r g w3.heap.size (fun k => S k ∧ k < w.heap.size) st z B s s1 b1 A t bad wr ∧ joinL A (loopL kF n t bad) = Y ∧ (bad = 0 → t.length < n) ∧ A.length + t.length ≤ B.length + (if bad = 0 then 0 else 1))
  case atStart => exact ⟨[], B, 0, K3.out.1, HY.out.1.symm, fun _ => by omega, by simp⟩
  case round =>
    obtain ⟨A, t, bad, hN, hE, hn, hl2⟩ := hrel
    have HR := Lib.hid (And.intro hN (And.intro hE (And.intro hn hl2)))
    have hwr := hN.ho.size
    clear hN hE hn hl2
    by_cases hgo : t.length ≠ 0 ∧ bad = 0
    · obtain ⟨ht0, hbad⟩ := hgo
      have hpos : 0 < t.length := by omega
      have hposI : (0 : Int) < (t.length : Int) := by omega
      · subst hbad
        have hn := HR.out.2.2.1 rfl
        have hl2 := HR.out.2.2.2
        rw [if_pos rfl] at hl2
        obtain ⟨m, rfl⟩ : ∃ m, gk = m + 1 := ⟨gk - 1, by omega⟩
        have hne : t ≠ [] := by intro h; rw [h] at ht0; exact ht0 rfl
        have hless := kF_less t hne
        have hleft := kF_left t
        have hgo := joinL_go kF A m t hne
        have hE := HR.out.2.1
        rw [hgo] at hE
        have hF : kF t = (((rU t 0 2).1, (vecS (rU t 0 2).2.1 (rU t 0 2).2.2 2 1 64).1), (vecS (rU t 0 2).2.1 (rU t 0 2).2.2 2 1 64).2) := rfl
        have HU1 := Lib.hid (fun wx (h : Rf wx r2 gi B t 0) => rfu_c r2 gi B t 0 2 wx h (by omega))
        obtain ⟨u1, hu1⟩ : ∃ u, u = rU t 0 2 := ⟨_, rfl⟩
        rw [← hu1] at HU1 hF
        obtain ⟨x, t1, e1⟩ := u1
        simp only at HU1 hF
        clear hu1
        have HU2 := Lib.hid (fun wx (h : Rf wx r2 gi B t1 e1) => rvector_c r2 gi B t1 e1 2 1 64 wx h (by omega))
        obtain ⟨u2, hu2⟩ : ∃ u, u = vecS t1 e1 2 1 64 := ⟨_, rfl⟩
        rw [← hu2] at HU2 hF
        obtain ⟨ke, t2, e2⟩ := u2
        simp only at HU2 hF
        clear hu2
        rw [hF] at hless hE hleft
        simp only at hless hE hleft
        have HE := Lib.hid hE
        clear hF hE hgo hne
        go_upto_region 18 with (first
          | (go_at_call 103; refine (rleft_c r2 gi B t 0 _ HR.out.1.inn).mono ?_; rintro e w4 ⟨rfl, ho4⟩; have H4 := Lib.hid (HR.out.1.quiet ho4); have d2 := H4.out.inn.c2; have hz4 := ho4.size; clear ho4)
          | (go_at_call 57; refine (HU1.out _ H4.out.inn).mono ?_; rintro e w5 ⟨rfl, hc, ho⟩; have H5 := Lib.hid (And.intro hc ho); have hz5 := ho.size; clear hc ho))
        have hK5 := H4.out.held.only shK H5.out.2 (by omega) (by intro k hk _ e; omega)
        have hi5 := H4.out.i.only H5.out.2 (by intro k hk e; omega)
        have hout5 := H4.out.out.only H5.out.2 (by omega) (by omega)
        have ho35 := H4.out.ho.then (H5.out.2.mono (fun _ _ h => .inl h))
        obtain ⟨p6, c6, hB6, hHP⟩ := hK5.parts shK (ra := r2) (by omega) (by omega) (by omega)
        have hw5 : w3.heap.size ≤ w5.heap.size := by omega
        have c0 : w5.cell? ⟨q0, 37, none⟩ = some (.slice p6 A.length c6) := hB6.d37 hlen
        have HP := Lib.hid (And.intro hHP (And.intro hi5 (And.intro hout5 ho35)))
        have HVd := Lib.hid (show Rf w5.drew r2 gi B t1 e1 from H5.out.1.only ((Only.refl (fun _ => False) w5).drew) (fun h => h) (fun h => h))
        clear hK5 hHP hi5 hout5 ho35 hB6 d2
        go_region_law (first
          | (refine step_append_row rfl _ _ 44 rfl 25 (.agg #[.int .i64 0, .slice none 0 0]) 2 32 Try.underlying44 Try.infoShR rfl (by decide) g3 (.slice p6 A.length c6) A.length L (by simp [Act.eval, Act.put]) (Row.only HG.out.2.1 (Only.of_below (r := fun _ => False) HB.out) (fun h => h)) ⟨w6.heap.size, 0, none⟩ 1 1 [.int .i64 x, .slice kp ke.length kc] (by simp [Act.eval, Act.put]) rfl (cell_two w6 _ _ _) (by simp [Value.oneCell']) (by simp only [maxLen]; omega) (by omega) (w6.heap.size + 1) (by simp) ?_; intro g4 v2 w7 hrow hg4 hO7q; have hO7 : Only (· = g3) w6 w7 := (Only.of_below (r := fun k => k = g3) HB.out).then hO7q; have hV7 := HG.out.1.only hO7 (by omega); have c7 := hV7.d37 hlen; have f7 := hV7.fr 37; obtain ⟨p5, k5, rfl, -⟩ := Row.form hrow; have H7 := Lib.hid (And.intro hrow (And.intro hO7 hV7)); clear hrow hO7q hO7 hV7)
          | (go_simp; go_at_call 60; refine (HU2.out _ HVd.out).mono ?_; rintro e w6 ⟨kg, kp, kc, rfl, hkg, hKO, hc, hoq⟩; have hoo : Only (· = r2) w5 w6 := ⟨hoq.os, hoq.tape, hoq.output, hoq.size, hoq.block⟩; have hkz : w5.heap.size ≤ kg := hkg; have hkl : kg < w6.heap.size ∨ ke.length = 0 := own_lt hKO; have HKO := Lib.hid hKO; obtain ⟨g3, L, hv3, hr3, hp3, hM3, hg3⟩ := HP.out.1 w6 hoo; have c6' : w6.cell? ⟨q0, 37, none⟩ = some (.slice p6 A.length c6) := hv3.d37 hlen; have f6' := hv3.fr 37; have hb6 : Below w6.heap.size w6 (w6.alloc (.cells #[.int .i64 x, .slice kp ke.length kc] 25)) := (Below.refl _ _).alloc (Nat.le_refl _) _; have ca6 : (w6.alloc (.cells #[.int .i64 x, .slice kp ke.length kc] 25)).cell? ⟨q0, 37, none⟩ = some (.slice p6 A.length c6) := (hv3.below hb6).d37 hlen; have HB := Lib.hid hb6; have HG := Lib.hid (And.intro hv3 (And.intro hr3 hp3)); have H6 := Lib.hid (And.intro hc hoo); have hz6 := hoo.size; clear hoq hc hoo hKO hv3 hr3 hp3 hb6))
        all_goals
          have hq0M : q0 < w3.heap.size := by omega
          have hst := HeldC.step (T := 48) (e := 25) (sz := 2) (off := 37) (U := fun p n c => clV st (z.u6 p n c)) shK (a := (x, ke)) (p0 := p6) (n0 := A.length) (c0 := c6) (clV_setIf (z := z.u6 p6 A.length c6) (z' := z.u6 p5 (A.length + 1) k5) hlen 5 (.slice p5 (A.length + 1) k5) rfl) HG.out.2.2 hM3 hg3 hz6 hw5 H7.out.2.2 H7.out.1 hg4 H7.out.2.1 hq0M (fun S w' hS ho h => h.push (x, ke) kp ke.length kc rfl (rd_new HKO.out hkz hkl hS ho (by intro h; omega) (by omega)) (own_nilc HKO.out))
          have ho7 : Only (fun k => k = r2 ∨ k = q0 ∨ k = g3) w5 (w7.setCell ⟨q0, 37, none⟩ (.slice p5 (A.length + 1) k5)) := ((H6.out.2.mono (fun _ _ h => .inl h)).then (H7.out.2.1.mono (fun _ _ h => .inr (.inr h)))).setCell _ _ (.inl (.inr (.inl rfl)))
          have ho67 : Only (fun k => k = g3 ∨ k = q0) w6 (w7.setCell ⟨q0, 37, none⟩ (.slice p5 (A.length + 1) k5)) := (H7.out.2.1.mono (fun _ _ h => .inl h)).setCell _ _ (.inl (.inr rfl))
          have hN7 : KJ w3 q0 r2 gi r g w3.heap.size (fun k => S k ∧ k < w.heap.size) st z B s s1 b1 (A ++ [(x, ke)]) t2 e2 (w7.setCell ⟨q0, 37, none⟩ (.slice p5 (A.length + 1) k5)) :=
            ⟨hst, HP.out.2.1.only ho7 (by intro k hk e; rcases e with e | e | e; omega; subst e; exact hS0 hk.1; omega), H6.out.1.only ho67 (by omega) (by omega), HP.out.2.2.1.only ho7 (by omega) (by omega), HP.out.2.2.2.trans ho7 (fun _ h => h) (fun k hk h => by rcases h with h | h | h; exact .inl h; exact .inr h; omega)⟩
          have HN7 := Lib.hid hN7
          clear hst ho7 ho67 hN7
          go_wp2
          go_roundg m
          case measure => omega
          case rel =>
            refine ⟨A ++ [(x, ke)], t2, e2, HN7.out, HE.out, ?_, ?_⟩
            · intro h0
              rcases hless with h | h
              · omega
              · exact absurd h0 h
            · rw [List.length_append, List.length_singleton]
              rcases hless with h | h
              · split <;> omega
              · rw [if_neg h]; omega
    · have hstop : t = [] ∨ bad ≠ 0 := by
        by_cases h : t.length = 0
        · exact .inl (List.eq_nil_of_length_eq_zero h)
        · exact .inr (fun e => hgo ⟨h, e⟩)
      have hYA : (A, t, bad) = Y := by rw [← HR.out.2.1, joinL_stop kF A gk t bad hstop]
      have HYY := Lib.hid hYA
      have hlA := HR.out.2.2.2
      have hA5 : A.length ≤ 65536 := by split at hlA <;> omega
      clear hYA hstop hlA
      by_cases ht0 : t.length = 0
      case' pos =>
        have htz : ¬ (0 : Int) < (t.length : Int) := by omega
        go_upto_region 19 with (go_at_call 103; refine (rleft_c r2 gi B t bad _ HR.out.1.inn).mono ?_; rintro e w4 ⟨rfl, ho4⟩; have H4 := Lib.hid (HR.out.1.quiet ho4); have d2 := H4.out.inn.c2; have hz4 := ho4.size; clear ho4)
      case' neg =>
        have hposI : (0 : Int) < (t.length : Int) := by omega
        have hbb : (bad == 0) = false := by
          have : bad ≠ 0 := fun e => hgo ⟨ht0, e⟩
          simpa using this
        go_upto_region 19 with (go_at_call 103; refine (rleft_c r2 gi B t bad _ HR.out.1.inn).mono ?_; rintro e w4 ⟨rfl, ho4⟩; have H4 := Lib.hid (HR.out.1.quiet ho4); have d2 := H4.out.inn.c2; have hz4 := ho4.size; clear ho4)
      all_goals
        clear d2
        obtain ⟨is, his⟩ : ∃ is, is = decide (doneS t bad ≠ 0 ∨ A.length < 1 ∨ 4 < A.length) := ⟨_, rfl⟩
        obtain ⟨dd, hdd⟩ : ∃ dd, dd = doneS t bad := ⟨_, rfl⟩
        have HDN := Lib.hid (rdone_c r2 gi B t bad w4 H4.out.inn)
        rw [← hdd] at HDN his
        have HIS := Lib.hid (And.intro his hdd)
        have HQ := Lib.hid (fun (wx : World) (ho : Only (fun _ => False) w4 wx) => H4.out.quiet ho)
        have hcl : ∀ wx, Only (fun _ => False) w4 wx → ∃ p6 c6, wx.cell? ⟨q0, 37, none⟩ = some (.slice p6 A.length c6) := by
          intro wx ho
          obtain ⟨p6, c6, _, _, hb, _⟩ := (HQ.out wx ho).held
          exact ⟨p6, c6, hb.d37 hlen⟩
        have HCL := Lib.hid hcl
        clear his hdd hcl
        by_cases hd : dd = 0
        case' neg =>
          have hdb : (dd != 0) = true := by simpa using hd
          obtain rfl : is = true := by rw [HIS.out.1]; exact decide_eq_true (.inl hd)
          clear hd
        case' pos =>
          subst hd
          by_cases hA1 : A.length < 1
          case' pos =>
            have hdb : decide ((A.length : Int) < 1) = true := by simp; omega
            obtain rfl : is = true := by rw [HIS.out.1]; exact decide_eq_true (.inr (.inl hA1))
          case' neg =>
            have hdb : decide ((A.length : Int) < 1) = false := by simp; omega
            by_cases hA4 : 4 < A.length
            case' pos =>
              have hdb2 : decide (4 < (A.length : Int)) = true := by simp; omega
              obtain rfl : is = true := by rw [HIS.out.1]; exact decide_eq_true (.inr (.inr hA4))
            case' neg =>
              have hdb2 : decide (4 < (A.length : Int)) = false := by simp; omega
              obtain rfl : is = false := by rw [HIS.out.1]; exact decide_eq_false (by rintro (h | h | h); exact h rfl; exact hA1 h; exact hA4 h)
      all_goals
        go_wp2_with (first
          | (go_at_call 63; have hq := K8; refine (rdone_c r g s s1 _ _ K8.out.1).mono ?_; rintro e w9 ⟨rfl, ho9⟩)
          | (go_at_call 63; refine HDN.out.mono ?_; rintro e w6 ⟨rfl, ho6⟩; have HK6 := Lib.hid (HQ.out w6 ho6); obtain ⟨p6, c6, hc6⟩ := HCL.out w6 ho6; clear ho6)
          | (go_at_call 58; refine (rfail_c r g s s1 b1 _ _ HK6.out.out).mono ?_; rintro e w8 ⟨rfl, hR8, ho8⟩; have K8 := Lib.hid (And.intro hR8 (And.intro (HK6.out.held.only shK ho8 (by omega) (by intro k hk _ e; omega)) (And.intro (HK6.out.i.only ho8 (by intro k hk e; omega)) ((HK6.out.ho.mono (s := fun k => k = r2 ∨ k = q0 ∨ k = r) (fun k _ h => by rcases h with h | h; exact .inl h; exact .inr (.inl h))).then (ho8.mono (fun k _ h => .inr (.inr h))))))); clear hR8 ho8 hc6))
        go_ret
        exact k51_end hS0 hlen h2f h2g hrge h2h HIS.out HYY.out K3.out.2 (K8.out.2.1.only shK ho9 (fun h => h) (fun _ _ _ h => h)) (K8.out.2.2.1.only ho9 (fun _ _ h => h)) (K8.out.2.2.2.then (ho9.mono (fun _ _ h => h.elim)))
end Go.Proofs.Ytegmimnhkohaoaa
