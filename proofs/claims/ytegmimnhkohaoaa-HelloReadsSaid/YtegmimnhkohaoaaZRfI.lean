/-
  The contract of relayref08.exts at a Client. Condition: at most 2 to the 46th bytes.
-/
import Derived.Test.YtegmimnhkohaoaaZRfH
namespace Go.Proofs.Ytegmimnhkohaoaa
open Go.RowKit Go.Kx
set_option linter.unusedVariables false
set_option linter.unusedSimpArgs false
set_option maxRecDepth 100000

/-- All extensions, as the document reads them. -/
def rextsL {σ : Type} (F : σ → Int → List UInt8 → Bool → σ × Bool) : Nat → σ → List Int → List UInt8 → Int → σ × List UInt8 × Int
  | 0, st, _, s, bad => (st, s, bad)
  | n + 1, st, had, s, bad => if s = [] ∨ bad ≠ 0 then (st, s, bad) else
    let u := rU s 0 2
    let v := vecS u.2.1 u.2.2 2 0 65535
    let b3 := failB v.2.2 (decide (u.1 ∈ had))
    if b3 ≠ 0 then (st, v.2.1, b3) else
    let y := F st u.1 v.1 (decide (v.2.1 = []))
    rextsL F n y.1 (had ++ [u.1]) v.2.1 (failB b3 (!y.2))
section
variable {σ : Type} (F : σ → Int → List UInt8 → Bool → σ × Bool)
theorem rextsL_stop (n : Nat) (st : σ) (had : List Int) (s : List UInt8) (bad : Int) (h : s = [] ∨ bad ≠ 0) : rextsL F n st had s bad = (st, s, bad) := by
  cases n with
  | zero => rfl
  | succ n => unfold rextsL; rw [if_pos h]
theorem rextsL_break (n : Nat) (st : σ) (had : List Int) (s : List UInt8) (h : s ≠ []) {k e1 e2 b3 : Int} {s1 s2 bs : List UInt8} (h1 : rU s 0 2 = (k, s1, e1)) (h2 : vecS s1 e1 2 0 65535 = (bs, s2, e2)) (h3 : b3 = failB e2 (decide (k ∈ had))) (hb : b3 ≠ 0) : rextsL F (n + 1) st had s 0 = (st, s2, b3) := by
  unfold rextsL
  rw [if_neg (by simp [h])]
  simp only [h1, h2, ← h3]
  rw [if_pos hb]
theorem rextsL_go (n : Nat) (st : σ) (had : List Int) (s : List UInt8) (h : s ≠ []) {k e1 e2 b3 : Int} {s1 s2 bs : List UInt8} (h1 : rU s 0 2 = (k, s1, e1)) (h2 : vecS s1 e1 2 0 65535 = (bs, s2, e2)) (h3 : b3 = failB e2 (decide (k ∈ had))) (hb : b3 = 0) : rextsL F (n + 1) st had s 0 = rextsL F n (F st k bs (decide (s2 = []))).1 (had ++ [k]) s2 (failB b3 (!(F st k bs (decide (s2 = []))).2)) := by
  conv => lhs; unfold rextsL
  rw [if_neg (by simp [h])]
  simp only [h1, h2, ← h3]
  rw [if_neg (by simp [hb])]
end
theorem failB_mem (e : Int) (k x : Int) (l : List Int) : failB (failB e (decide (k ∈ l))) (x == k) = failB e (decide (k ∈ l ++ [x])) := by
  unfold failB rm
  by_cases h1 : k ∈ l
  · simp [h1]
    by_cases h2 : e = 0 <;> simp [h2]
  · by_cases h2 : x = k
    · subst h2; simp [h1]
    · have : ¬ k = x := fun e => h2 e.symm
      simp [h1, h2, this]

/-- What the loop keeps. -/
structure EJ (w w3 : World) (q0 r2 gi r g M : Nat) (S : Nat → Prop) (B b s1 : List UInt8) (b1 : Int) (gh : Nat) (had : List Int) (p : Option Addr) (c : Nat) (st : Cl) (t : List UInt8) (bad : Int) (wx : World) : Prop where
  at' : RAt q0 wx (fun k => (S k ∧ k < w.heap.size) ∨ (M ≤ k ∧ k ≠ gh ∧ had ≠ [])) had st
  inn : Rf wx r2 gi B t bad
  out : Rf wx r g b s1 b1
  row : Row wx 3 1 gh (.slice p had.length c) had.length (had.map I64)
  hg : M ≤ gh
  nil : had = [] → p = none ∧ c = 0
  ho : Only (fun k => k = r2 ∨ k = q0) w3 wx
theorem EJ.quiet {w w3 wx wy : World} {q0 r2 gi r g M gh c : Nat} {S : Nat → Prop} {B b s1 t : List UInt8} {b1 bad : Int} {had : List Int} {p : Option Addr} {st : Cl} (h : EJ w w3 q0 r2 gi r g M S B b s1 b1 gh had p c st t bad wx) (ho : Only (fun _ => False) wx wy) : EJ w w3 q0 r2 gi r g M S B b s1 b1 gh had p c st t bad wy :=
  ⟨h.at'.only ho (fun _ h => h.elim), h.inn.only ho (fun h => h) (fun h => h), h.out.only ho (fun h => h) (fun h => h), h.row.only ho (fun h => h), h.hg, h.nil, h.ho.then (ho.mono (fun _ _ h => h.elim))⟩
theorem EJ.step {w w3 wx wy : World} {q0 r2 gi r g M gh c : Nat} {S : Nat → Prop} {B b s1 t t' : List UInt8} {b1 bad bad' : Int} {had : List Int} {p : Option Addr} {st : Cl} (h : EJ w w3 q0 r2 gi r g M S B b s1 b1 gh had p c st t bad wx) (hr : Rf wy r2 gi B t' bad') (ho : Only (· = r2) wx wy) (h1 : r2 < M) (h2 : w.heap.size ≤ r2) (h3 : q0 ≠ r2) (h4 : r ≠ r2) (h5 : g ≠ r2) : EJ w w3 q0 r2 gi r g M S B b s1 b1 gh had p c st t' bad' wy :=
  ⟨h.at'.only ho (fun k hk => by subst hk; exact ⟨by rintro (⟨_, h⟩ | ⟨h, _⟩) <;> omega, fun e => h3 e.symm⟩), hr, h.out.only ho h4 h5, h.row.only ho (by have := h.hg; omega), h.hg, h.nil, h.ho.then (ho.mono (fun _ _ h => .inl h))⟩
/-- What exts makes of a Client, and of the Reader. -/
def rexS (st : Cl) (s : List UInt8) (bad : Int) : Cl × List UInt8 × Int :=
  let v := vecS s bad 2 0 65535
  let Y := rextsL rcliF (v.1.length + 1) st [] v.1 0
  (Y.1, v.2.1, failB v.2.2 (decide (doneS Y.2.1 Y.2.2 ≠ 0)))
def RexR (q0 : Nat) (S : Nat → Prop) (w : World) (r g : Nat) (b : List UInt8) (y : Cl × List UInt8 × Int) (e : Ending) (w' : World) : Prop :=
  e = .returned ret0 ∧ (∃ z, CB w' q0 (fun k => S k ∨ w.heap.size ≤ k) y.1 z) ∧ Rf w' r g b y.2.1 y.2.2 ∧ Only (fun k => k = r ∨ k = q0) w w'

set_option maxHeartbeats 8000000 in
theorem rextsC_c (q0 : Nat) (w : World) (S : Nat → Prop) (st : Cl) (r g : Nat) (b s : List UInt8) (bad : Int) (hA : RAt q0 w S [] st) (hS0 : ¬ S q0) (hR : Rf w r g b s bad) (hSr : ¬ S r) (hrq : r ≠ q0) (hgq : g ≠ q0) (hl : b.length ≤ 140737488355328) (hsb : s.length ≤ b.length) :
    Calls Try.prog 62 #[rp r, rp q0, .pointer none] w (RexR q0 S w r g b (rexS st s bad)) := by
  have hq0 := hA.lt
  have hrl := hR.rlt
  have hgl := hR.lt
  have hrg := hR.ne
  have hsh : (vecS s bad 2 0 65535).1.length ≤ 65535 := vecS_short s bad 2 0 65535
  have HU := Lib.hid (rvector_c r g b s bad 2 0 65535 w hR hl)
  have hX : rexS st s bad = ((rextsL rcliF ((vecS s bad 2 0 65535).1.length + 1) st [] (vecS s bad 2 0 65535).1 0).1, (vecS s bad 2 0 65535).2.1, failB (vecS s bad 2 0 65535).2.2 (decide (doneS (rextsL rcliF ((vecS s bad 2 0 65535).1.length + 1) st [] (vecS s bad 2 0 65535).1 0).2.1 (rextsL rcliF ((vecS s bad 2 0 65535).1.length + 1) st [] (vecS s bad 2 0 65535).1 0).2.2 ≠ 0))) := rfl
  rw [hX]
  clear hX
  generalize vecS s bad 2 0 65535 = v at *
  obtain ⟨B, s1, b1⟩ := v
  simp only at hsh HU ⊢
  obtain ⟨Y, hY⟩ : ∃ Y, Y = rextsL rcliF (B.length + 1) st [] B 0 := ⟨_, rfl⟩
  rw [← hY]
  have HY := Lib.hid hY
  have HA := Lib.hid (hA.mono (T := fun k => S k ∧ k < w.heap.size) (fun k hk h => ⟨h, hk⟩))
  clear hA hR hY
  go_enter Try.func62, Try.ntmps62
  go_upto_region 1 with (go_at_call 60; refine HU.out.mono ?_; rintro e w2 ⟨g', p1, c1, rfl, hg', hO1, hc, ho⟩; have H2 := Lib.hid (And.intro hO1 (And.intro hc ho)); have hz2 := ho.size; clear hO1 hc ho)
  obtain ⟨hpn, hnc, hcm⟩ : (p1 = none → c1 = 0) ∧ B.length ≤ c1 ∧ c1 ≤ maxLen := by
    obtain ⟨p', c', he, h1, h2, _, h3, _⟩ := H2.out.1.form
    cases he
    exact ⟨h3, h1, h2⟩
  obtain ⟨gi, hgi, hgo, hRi⟩ := Rf.new (q := r) H2.out.1.rd rfl hpn (own_spot H2.out.1) hnc hcm (by omega)
  have hB3 : Below w2.heap.size w2 (w2.alloc (.cells #[.slice p1 B.length c1, .int .i64 0, .int .i64 0] 109)) := (Below.refl _ _).alloc (Nat.le_refl _) _
  have hz3 := World.size_alloc w2 (.cells #[.slice p1 B.length c1, .int .i64 0, .int .i64 0] 109)
  have hgi0 : gi ≠ q0 := by
    rcases hgo with h | ⟨o, h⟩
    · omega
    · obtain ⟨p', c', he, _, _, _, _, h3⟩ := H2.out.1.form
      cases he
      obtain ⟨h4, _⟩ := h3 _ h
      cases h4
      omega
  generalize w2.alloc (.cells #[.slice p1 B.length c1, .int .i64 0, .int .i64 0] 109) = w3 at *
  have hO3 : Only (· = r) w w3 := H2.out.2.2.then (Only.of_below hB3)
  have hE3 : EJ w w3 q0 w2.heap.size gi r g w3.heap.size S B b s1 b1 w3.heap.size [] none 0 st B 0 w3 :=
    ⟨(HA.out.only hO3 (fun k hk => by subst hk; exact ⟨fun h => hSr h.1, hrq⟩)).mono (fun k _ h => .inl h), hRi, H2.out.2.1.only (Only.of_below (r := fun _ => False) hB3) (fun h => h) (fun h => h), Row.nil _ _ _ _, Nat.le_refl _, fun _ => ⟨rfl, rfl⟩, Only.refl _ _⟩
  have K3 := Lib.hid (And.intro hE3 hO3)
  obtain ⟨r2, hr2⟩ : ∃ r2, r2 = w2.heap.size := ⟨_, rfl⟩
  rw [← hr2] at K3 ⊢
  have h2a : r < r2 := by omega
  have h2b : r2 < w3.heap.size := by omega
  have h2c : gi < r2 := by omega
  have h2d : g < r2 := by omega
  have h2e : q0 < r2 := by omega
  have h2f : w.heap.size ≤ r2 := by omega
  clear hB3 hO3 hE3 hRi hgo hgi hz3 hr2 hpn hnc hcm HA H2 hz2 hg' HU
  go_upto_block 0 with (fail)
  go_cut [15] (fun _ wx => ∃ gh had p c, EJ w w3 q0 r2 gi r g w3.heap.size S B b s1 b1 gh had p c Y.1 Y.2.1 Y.2.2 wx)
  case first =>
    go_wp2_with fail
    go_loopg [7, 8, 9, 10] (B.length + 1) (fun n v7 v8 v9 v10 wr => ∃ st' had t bad gh p c, v7 = .slice p had.length c ∧ EJ w w3 q0 r2 gi r g w3.heap.size S B b s1 b1 gh had p c st' t bad wr ∧ rextsL rcliF n st' had t bad = Y ∧ (bad = 0 → t.length < n) ∧ had.length + t.length ≤ B.length + (if bad = 0 then 0 else 1))
    case atStart => exact ⟨st, [], B, 0, _, none, 0, rfl, K3.out.1, HY.out.symm, fun _ => by omega, by simp⟩
    case round =>
      obtain ⟨st', had, t, bad, gh, p, c, rfl, hN, hE, hn, hl2⟩ := hrel
      have HR := Lib.hid (And.intro hN (And.intro hE (And.intro hn hl2)))
      have hwr := hN.ho.size
      have hg3 := hN.hg
      clear hN hE hn hl2
      by_cases hgo : t.length ≠ 0 ∧ bad = 0
      · obtain ⟨ht0, hbad⟩ := hgo
        have hpos : 0 < t.length := by omega
        have hposI : (0 : Int) < (t.length : Int) := by omega
        subst hbad
        have hn := HR.out.2.2.1 rfl
        have hl2 := HR.out.2.2.2
        rw [if_pos rfl] at hl2
        obtain ⟨m, rfl⟩ : ∃ m, gk = m + 1 := ⟨gk - 1, by omega⟩
        have hne : t ≠ [] := by intro h; rw [h] at ht0; exact ht0 rfl
        have hless := rU_less t 2 (by decide) hne
        have HU1 := Lib.hid (fun wx (h : Rf wx r2 gi B t 0) => rfu_c r2 gi B t 0 2 wx h (by omega))
        have hub := rU_big t 0 2
        obtain ⟨u1, hu1⟩ : ∃ u, u = rU t 0 2 := ⟨_, rfl⟩
        rw [← hu1] at HU1 hless hub
        obtain ⟨k, t1, e1⟩ := u1
        simp only at HU1 hless hub
        have HU2 := Lib.hid (fun wx (h : Rf wx r2 gi B t1 e1) => rvector_c r2 gi B t1 e1 2 0 65535 wx h (by omega))
        have hvl := vecS_left t1 e1 2 0 65535
        have hvs : (vecS t1 e1 2 0 65535).1.length ≤ 65535 := vecS_short t1 e1 2 0 65535
        have hvb := vecS_bad t1 e1 2 0 65535
        obtain ⟨u2, hu2⟩ : ∃ u, u = vecS t1 e1 2 0 65535 := ⟨_, rfl⟩
        rw [← hu2] at HU2 hvl hvs hvb
        obtain ⟨bs, t2, e2⟩ := u2
        simp only at HU2 hvl hvs hvb
        obtain ⟨b3, hb3⟩ : ∃ b3, b3 = failB e2 (decide (k ∈ had)) := ⟨_, rfl⟩
        have HB := Lib.hid (And.intro hu1.symm (And.intro hu2.symm (And.intro hb3 hne)))
        have HVB := Lib.hid hvb
        clear hu1 hu2 hb3 hne hvb
        go_upto_block 2 with (first
          | (go_at_call 103; refine (rleft_c r2 gi B t 0 _ HR.out.1.inn).mono ?_; rintro e w4 ⟨rfl, ho4⟩; have H4 := Lib.hid (HR.out.1.quiet ho4); have d2 := H4.out.inn.c2; have hz4 := ho4.size; clear ho4)
          | (go_at_call 57; refine (HU1.out _ H4.out.inn).mono ?_; rintro e w5 ⟨rfl, hc, ho⟩; have H5 := Lib.hid (H4.out.step hc ho h2b h2f (by omega) (by omega) (by omega)); have hz5 := ho.size; clear hc ho)
          | (go_at_call 60; refine (HU2.out _ H5.out.inn).mono ?_; rintro e w6 ⟨kg, kp, kc, rfl, hkg, hKO, hc, ho⟩; have H6 := Lib.hid (And.intro (H5.out.step hc ho h2b h2f (by omega) (by omega) (by omega)) hKO); have hz6 := ho.size; clear hc ho hKO))
        have hkw : w3.heap.size ≤ kg := by omega
        clear d2
        go_cut [10] (fun _ wx => EJ w w3 q0 r2 gi r g w3.heap.size S B b s1 b1 gh had p c st' t2 b3 wx ∧ Own wx kg (.slice kp bs.length kc) bs)
        case first =>
          go_wp2_with fail
          go_loopw [10] (fun v10 wr => ∃ i : Nat, i ≤ had.length ∧ v10 = .int .i64 (i : Int) ∧ EJ w w3 q0 r2 gi r g w3.heap.size S B b s1 b1 gh had p c st' t2 (failB e2 (decide (k ∈ had.take i))) wr ∧ Own wr kg (.slice kp bs.length kc) bs) (fun v10 _ => had.length - (intOf v10).toNat)
          case atStart => exact ⟨0, Nat.zero_le _, rfl, by rw [show failB e2 (decide (k ∈ had.take 0)) = e2 by simp [failB]]; exact H6.out.1, H6.out.2⟩
          case round =>
            obtain ⟨i, hi, rfl, hJ, hO⟩ := hrel
            have J := Lib.hid (And.intro hJ hO)
            clear hJ hO
            by_cases hlt : i < had.length
            · obtain ⟨_, _, hpe, hp0, hcell⟩ := Row.form J.out.1.row
              cases hpe
              obtain ⟨hp1, _⟩ := hp0 (by omega)
              have hci : wr.cell? ⟨gh, i, none⟩ = some (.int .i64 (had[i]'hlt)) := hcell i _ (by rw [List.getElem?_map, List.getElem?_eq_getElem hlt]; rfl)
              have hts : had.take (i + 1) = had.take i ++ [had[i]'hlt] := List.take_succ_eq_append_getElem hlt
              obtain ⟨x, hx⟩ : ∃ x, x = had[i]'hlt := ⟨_, rfl⟩
              rw [← hx] at hci hts
              have HT := Lib.hid hts
              have hpi : (0 : Int) ≤ (i : Int) := by omega
              have hpl : (i : Int) < (had.length : Int) := by omega
              have HLT := Lib.hid hlt
              clear hts hx hcell hp0
              subst hp1
              obtain ⟨xb, hxb⟩ : ∃ xb, xb = (x == k) := ⟨_, rfl⟩
              have HXB := Lib.hid hxb
              go_wp2_with (go_at_call 58; refine (rfail_c r2 gi B t2 _ (x == k) _ J.out.1.inn).mono ?_; rintro e w8 ⟨rfl, hR8, ho8⟩; have K8 := Lib.hid (And.intro (J.out.1.step hR8 ho8 h2b h2f (by omega) (by omega) (by omega)) (J.out.2.only ho8 (by omega))); clear hR8 ho8)
              go_roundw
              case rel => exact ⟨i + 1, by have := HLT.out; omega, by go_num, by rw [HT.out, ← failB_mem]; exact K8.out.1, K8.out.2⟩
              case measure => have := HLT.out; simp [intOf]; omega
            · obtain rfl : i = had.length := by omega
              go_wp2
              go_meet
              have hJ := J.out
              rw [List.take_length, ← HB.out.2.2.1] at hJ
              exact hJ
        case rest =>
          have G6 := Lib.hid hcut
          have hzc := hcut.1.ho.size
          have hilt := hcut.1.inn.rlt
          have hgh : had = [] ∨ gh < w5.heap.size := by
            by_cases h0 : had = []
            · exact .inl h0
            · obtain ⟨_, _, _, hf, _⟩ := Row.form H5.out.row
              have hl0 : 0 < had.length := List.length_pos_iff.2 h0
              exact .inr (hf hl0).2
          clear hcut H6 H5 H4
          -- the row of the kinds, by a name of its own as long as it is nil
          obtain ⟨g3, hr3, hg3', hg3c, hg3n, hg3e⟩ : ∃ g3, Row wc 3 1 g3 (.slice p had.length c) had.length (had.map I64) ∧ w3.heap.size ≤ g3 ∧ (g3 < wc.heap.size ∨ g3 = wc.heap.size) ∧ (had ≠ [] → g3 = gh) ∧ (had = [] → g3 = wc.heap.size) := by
            by_cases h0 : had = []
            · obtain ⟨e1, e2⟩ := G6.out.1.nil h0
              subst h0 e1 e2
              exact ⟨wc.heap.size, Row.nil _ _ _ _, hzc, .inr rfl, fun h => absurd rfl h, fun _ => rfl⟩
            · have h1 := G6.out.1.row
              obtain ⟨_, _, _, hf, _⟩ := Row.form h1
              have hl0 : 0 < had.length := List.length_pos_iff.2 h0
              exact ⟨gh, h1, G6.out.1.hg, .inl (hf hl0).2, fun _ => rfl, fun h => absurd h h0⟩
          have hat : RAt q0 wc (fun k => ((S k ∧ k < w.heap.size) ∨ (w3.heap.size ≤ k ∧ k ≠ g3 ∧ k < wc.heap.size))) had st' := G6.out.1.at'.mono (fun k hk h => by
            rcases h with h | ⟨h1, h2, h3⟩
            · exact .inl h
            · exact .inr ⟨h1, by rw [hg3n h3]; exact h2, hk⟩)
          have HR3 := Lib.hid (And.intro hr3 hat)
          have hba : Below wc.heap.size wc (wc.alloc (.cells #[.int .i64 k] 3)) := (Below.refl _ _).alloc (Nat.le_refl _) _
          have HBA := Lib.hid hba
          have hhl : had.length ≤ 65535 := by omega
          clear hr3 hat hba
          go_upto_region 10 with (at_builtin; refine wpList_append_row rfl _ _ 43 rfl 3 (.int .i64 0) 1 8 Try.underlying43 Try.infoInt rfl (by decide) g3 (.slice p had.length c) had.length (had.map I64) rfl (Row.only HR3.out.1 (Only.of_below (r := fun _ => False) HBA.out) (fun h => h)) ⟨wc.heap.size, 0, none⟩ 1 1 [.int .i64 k] rfl rfl (cell_one wc _ _) (by simp [Value.oneCell']) (by simp only [maxLen]; omega) (by omega) (wc.heap.size + 1) (by simp) ?_; intro g4 v2 w7 hrow hg4 hO7q; have hO7 : Only (· = g3) wc w7 := (Only.of_below (r := fun k => k = g3) HBA.out).then hO7q; have hz7 := hO7.size; obtain ⟨p5, k5, rfl, hfr, -⟩ := Row.form hrow; have H7 := Lib.hid (And.intro hrow (And.intro hO7 (hfr (by omega)))); clear hrow hO7q hO7 hfr)
          have hq03 : q0 ≠ g3 := by omega
          have hne4 : had ++ [k] ≠ [] := by simp
          have hE7 : EJ w w3 q0 r2 gi r g w3.heap.size S B b s1 b1 g4 (had ++ [k]) p5 k5 st' t2 b3 w7 := by
            have hN := G6.out.1
            have hl : (had ++ [k]).length = had.length + 1 := by simp
            refine ⟨?_, hN.inn.only H7.out.2.1 (by omega) (by omega), hN.out.only H7.out.2.1 (by omega) (by omega), ?_, by rcases hg4 with h | h <;> omega, fun h => absurd h hne4, hN.ho.trans H7.out.2.1 (fun _ h => h) (fun k hk h => by omega)⟩
            · obtain ⟨z, hz1, hz2, hz3⟩ := HR3.out.2
              refine ⟨z, (hz1.only H7.out.2.1 (fun k hk => by subst hk; exact ⟨by rintro (⟨_, h⟩ | ⟨_, h, _⟩); omega; exact h rfl, fun e => hq03 e.symm⟩)).mono (fun k' hk h => ?_), fun h => hz2 (fun h' => h (by simp [h'])), fun h => hz3 (fun h' => h (by simp [h']))⟩
              rcases h with h | ⟨h1, h2, h3⟩
              · exact .inl h
              · exact .inr ⟨h1, by rcases hg4 with h | h <;> omega, hne4⟩
            · rw [hl, List.map_append]
              exact H7.out.1
          have E7 := Lib.hid hE7
          have hown : ∃ kg', kg' ≠ q0 ∧ Own w7 kg' (.slice kp bs.length kc) bs := by
            by_cases h : kg < wc.heap.size
            · refine ⟨kg, by omega, G6.out.2.only H7.out.2.1 ?_⟩
              by_cases h2 : had = []
              · have := hg3e h2; omega
              · have h3 := hg3n h2
                rcases hgh with h0 | h0
                · exact absurd h0 h2
                · omega
            · obtain ⟨p', c', he, _, _, hr, hp, ha⟩ := G6.out.2.form
              cases he
              cases kp with
              | none =>
                have hb0 := hr.none_nil
                have hk0 := hp rfl
                subst hb0 hk0
                exact ⟨w7.heap.size, by omega, Own.nil _ _⟩
              | some a => exact absurd (ha a rfl).2 h
          obtain ⟨kg', hkq, hO7'⟩ := hown
          have hat7 : RAt q0 w7 (fun k => ((S k ∧ k < w.heap.size) ∨ (w3.heap.size ≤ k ∧ k ≠ g4 ∧ k < w7.heap.size))) had st' := (HR3.out.2.only H7.out.2.1 (fun k hk => by subst hk; exact ⟨by rintro (⟨_, h⟩ | ⟨_, h, _⟩); omega; exact h rfl, fun e => hq03 e.symm⟩)).mono (fun k' hk h => by
            rcases h with h | ⟨h1, h2, h3⟩
            · exact .inl h
            · exact .inr ⟨h1, by rcases hg4 with h | h <;> omega, by omega⟩)
          have c2 := hE7.inn.c2
          have hg4w := H7.out.2.2.2
          have HO7 := Lib.hid (And.intro hO7' hat7)
          clear hE7 hO7' hat7 G6 hg3n hg3e
          by_cases hb : b3 = 0
          · subst hb
            have hk : k ∉ had := by
              intro h
              have h1 := HB.out.2.2.1
              rw [decide_eq_true h] at h1
              unfold failB rm at h1
              rw [if_pos rfl] at h1
              by_cases he : e2 = 0
              · rw [if_pos he] at h1
                exact absurd h1 (by decide)
              · rw [if_neg he] at h1
                exact he h1.symm
            have he2 : e2 = 0 := by
              have h1 := HB.out.2.2.1
              rw [decide_eq_false hk] at h1
              exact h1.symm
            obtain ⟨last, hlast⟩ : ∃ last, last = decide (t2 = []) := ⟨_, rfl⟩
            have hl0 : ((t2.length : Int) == 0) = last := by
              rw [hlast]
              cases t2 with
              | nil => rfl
              | cons a l => simp; omega
            have hgo2 := rextsL_go rcliF m st' had t HB.out.2.2.2 HB.out.1 HB.out.2.1 HB.out.2.2.1 rfl
            rw [← hlast] at hgo2
            have hE2 := HR.out.2.1
            rw [hgo2] at hE2
            have HE2 := Lib.hid hE2
            have HCE := Lib.hid (fun w8 (ho : Only (fun _ => False) w7 w8) => rclient_ext q0 w8 (fun k => ((S k ∧ k < w.heap.size) ∨ (w3.heap.size ≤ k ∧ k ≠ g4 ∧ k < w7.heap.size))) had st' kg' kp kc bs k last (HO7.out.2.only ho (fun _ h => h.elim)) hk (by rintro (⟨h, _⟩ | ⟨h, _⟩); exact hS0 h; omega) (HO7.out.1.only ho (fun h => h)) hkq r2 (by have := ho.size; omega) (by omega) (by omega))
            have HK := Lib.hid (And.intro hk he2)
            generalize rcliF st' k bs last = y at *
            obtain ⟨st2, ok⟩ := y
            simp only at HE2 HCE
            clear hgo2 hE2 hlast hk he2
            go_wp2_with (first
              | (go_at_call 103; refine (rleft_c r2 gi B t2 0 _ E7.out.inn).mono ?_; rintro e w8 ⟨rfl, ho8⟩; have E8 := Lib.hid (And.intro (E7.out.quiet ho8) ho8); have hz8 := ho8.size; clear ho8)
              | (go_at_call 104; refine (HCE.out _ E8.out.2).mono ?_; rintro e w9 ⟨rfl, hA9, ho9⟩; have hN := E8.out.1; have E9 := Lib.hid (show EJ w w3 q0 r2 gi r g w3.heap.size S B b s1 b1 g4 (had ++ [k]) p5 k5 st2 t2 0 w9 from ⟨hA9.mono (fun k' hk' h => by rcases h with (h | ⟨h1, h2, h3⟩) | h; exact .inl h; exact .inr ⟨h1, h2, hne4⟩; exact .inr ⟨by omega, by omega, hne4⟩), hN.inn.only ho9 (by omega) (by omega), hN.out.only ho9 (by omega) (by omega), hN.row.only ho9 (by omega), hN.hg, hN.nil, hN.ho.then (ho9.mono (fun _ _ h => .inr h))⟩); have hz9 := ho9.size; clear hA9 ho9 hN)
              | (go_at_call 58; refine (rfail_c r2 gi B t2 0 (!ok) _ E9.out.inn).mono ?_; rintro e w10 ⟨rfl, hR10, ho10⟩; have E10 := Lib.hid (E9.out.step hR10 ho10 h2b h2f (by omega) (by omega) (by omega)); clear hR10 ho10))
            have hle2 : t2.length + 1 ≤ t.length := by
              rcases hless with h | h
              · omega
              · exact absurd HK.out.2 (HVB.out h)
            go_roundg m
            case measure => omega
            case rel =>
              refine ⟨st2, had ++ [k], t2, failB 0 (!ok), g4, p5, k5, by rw [List.length_append, List.length_singleton], E10.out, HE2.out, fun _ => ?_, ?_⟩
              · omega
              · rw [List.length_append, List.length_singleton]
                split <;> omega
          · have hbn : (b3 != 0) = true := by simpa using hb
            have hbr := rextsL_break rcliF m st' had t HB.out.2.2.2 HB.out.1 HB.out.2.1 HB.out.2.2.1 hb
            have hYA : (st', t2, b3) = Y := by rw [← HR.out.2.1, hbr]
            have HYY := Lib.hid hYA
            clear hYA hbr
            go_wp2
            go_meet
            have hYY := HYY.out
            subst hYY
            exact ⟨g4, had ++ [k], p5, k5, E7.out⟩
      · have hstop : t = [] ∨ bad ≠ 0 := by
          by_cases h : t.length = 0
          · exact .inl (List.eq_nil_of_length_eq_zero h)
          · exact .inr (fun e => hgo ⟨h, e⟩)
        have hYA : (st', t, bad) = Y := by rw [← HR.out.2.1, rextsL_stop rcliF gk st' had t bad hstop]
        have HYY := Lib.hid hYA
        clear hYA hstop
        by_cases ht0 : t.length = 0
        case' pos =>
          have htz : ¬ (0 : Int) < (t.length : Int) := by omega
          go_wp2_with (go_at_call 103; refine (rleft_c r2 gi B t bad _ HR.out.1.inn).mono ?_; rintro e w4 ⟨rfl, ho4⟩; have H4 := Lib.hid (HR.out.1.quiet ho4); have d2 := H4.out.inn.c2; have hz4 := ho4.size; clear ho4)
        case' neg =>
          have hposI : (0 : Int) < (t.length : Int) := by omega
          have hbb : (bad == 0) = false := by
            have : bad ≠ 0 := fun e => hgo ⟨ht0, e⟩
            simpa using this
          go_wp2_with (go_at_call 103; refine (rleft_c r2 gi B t bad _ HR.out.1.inn).mono ?_; rintro e w4 ⟨rfl, ho4⟩; have H4 := Lib.hid (HR.out.1.quiet ho4); have d2 := H4.out.inn.c2; have hz4 := ho4.size; clear ho4)
        all_goals
          go_meet
          have hYY := HYY.out
          subst hYY
          exact ⟨gh, had, p, c, H4.out⟩
  case rest =>
    have G := Lib.hid hcut
    obtain ⟨dd, hdd⟩ : ∃ dd, dd = doneS Y.2.1 Y.2.2 := ⟨_, rfl⟩
    have HD := Lib.hid (fun wx (h : Rf wx r2 gi B Y.2.1 Y.2.2) => (hdd ▸ rdone_c r2 gi B Y.2.1 Y.2.2 wx h : Calls Try.prog 63 #[rp r2] wx (fun e w' => e = .returned (.int .i64 dd) ∧ Only (fun _ => False) wx w')))
    have HDD := Lib.hid hdd
    obtain ⟨gh, had, p, c, hN⟩ := hcut
    have hw3 := hN.ho.size
    have hgh := hN.hg
    have HN := Lib.hid hN
    clear hdd hN G
    go_wp2_with (first
      | (go_at_call 63; refine (HD.out _ HN.out.inn).mono ?_; rintro e w6 ⟨rfl, ho6⟩; have H6 := Lib.hid (HN.out.quiet ho6); clear ho6)
      | (go_at_call 58; refine (rfail_c r g b s1 b1 _ _ H6.out.out).mono ?_; rintro e w7 ⟨rfl, hR7, ho7⟩; have H7 := Lib.hid (And.intro hR7 ho7); clear hR7 ho7))
    go_end0
    have hbx : (dd != 0) = decide (doneS Y.2.1 Y.2.2 ≠ 0) := by rw [← HDD.out, Bool.eq_iff_iff]; simp
    have hR7 := H7.out.1
    rw [hbx] at hR7
    obtain ⟨z, hz, _⟩ := H6.out.at'
    refine ⟨rfl, ⟨z, (hz.only H7.out.2 (fun k hk => by subst hk; exact ⟨by rintro (⟨h, _⟩ | ⟨h, _⟩); exact hSr h; omega, hrq⟩)).mono (fun k _ h => by rcases h with h | h; exact .inl h.1; exact .inr (by omega))⟩, hR7, ?_⟩
    exact ((K3.out.2.mono (fun _ _ h => .inl h)).trans H6.out.ho (fun _ h => h) (fun k hk h => by rcases h with h | h; omega; exact .inr h)).then (H7.out.2.mono (fun _ _ h => .inl h))
end Go.Proofs.Ytegmimnhkohaoaa
