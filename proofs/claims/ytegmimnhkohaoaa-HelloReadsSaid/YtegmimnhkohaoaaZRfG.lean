/-
  The contract of relayref08.clientExt at tickets. Condition: at most 2 to the 46th bytes.
-/
import Derived.Test.YtegmimnhkohaoaaZRfF
import Derived.Test.YtegmimnhkohaoaaZg4
namespace Go.Proofs.Ytegmimnhkohaoaa
open Go.RowKit Go.Kx
set_option linter.unusedVariables false
set_option linter.unusedSimpArgs false
set_option maxRecDepth 100000

def Z10.u10 (z : Z10) (p : Option Addr) (n c : Nat) : Z10 := { z with p10 := p, n10 := n, c10 := c }
theorem zero9 {z : Z10} (h1 : z.p9 = none) (h2 : z.n9 = 0) (h3 : z.c9 = 0) : z = z.u9 none 0 0 := by
  obtain ⟨p1, n1, c1, p2, n2, c2, p3, n3, c3, p4, n4, c4, p5, n5, c5, p6, n6, c6, p7, n7, c7, p8, n8, c8, p9, n9, c9, p10, n10, c10⟩ := z
  simp only at h1 h2 h3
  subst h1 h2 h3
  rfl
theorem zero10 {z : Z10} (h1 : z.p10 = none) (h2 : z.n10 = 0) (h3 : z.c10 = 0) (p : Option Addr) (n c : Nat) : z.u9 p n c = (z.u9 p n c).u10 none 0 0 := by
  obtain ⟨p1, n1, c1, p2, n2, c2, p3, n3, c3, p4, n4, c4, p5, n5, c5, p6, n6, c6, p7, n7, c7, p8, n8, c8, p9, n9, c9, p10, n10, c10⟩ := z
  simp only at h1 h2 h3
  subst h1 h2 h3
  rfl
/-- What a loop keeps: the Client's block with its elements; what else lies there; the inner Reader, the outer one. -/
structure KG {α : Type} (P : World → (Nat → Prop) → List Value → List α → Prop) (U : Option Addr → Nat → Nat → Array Value) (e sz : Nat) (I : World → Prop) (w3 : World) (q0 r2 g2 r g M : Nat) (B b s1 : List UInt8) (b1 : Int) (A : List α) (s : List UInt8) (bad : Int) (wx : World) : Prop where
  held : HeldC P U wx q0 48 e sz M A
  i : I wx
  inn : Rf wx r2 g2 B s bad
  out : Rf wx r g b s1 b1
  ho : Only (fun k => k = r2 ∨ k = q0) w3 wx
theorem KG.quiet {α : Type} {P : World → (Nat → Prop) → List Value → List α → Prop} {U : Option Addr → Nat → Nat → Array Value} {e sz : Nat} {I : World → Prop} {w3 wx wy : World} {q0 r2 g2 r g M : Nat} {B b s1 s : List UInt8} {b1 bad : Int} {A : List α} (K : RowK P) (h : KG P U e sz I w3 q0 r2 g2 r g M B b s1 b1 A s bad wx) (hI : ∀ wy, Only (fun _ => False) wx wy → I wx → I wy) (ho : Only (fun _ => False) wx wy) : KG P U e sz I w3 q0 r2 g2 r g M B b s1 b1 A s bad wy :=
  ⟨h.held.only K ho (fun h => h) (fun _ _ _ h => h), hI wy ho h.i, h.inn.only ho (fun h => h) (fun h => h), h.out.only ho (fun h => h) (fun h => h), h.ho.then (ho.mono (fun _ _ h => h.elim))⟩
theorem rdoneQ_c (r g : Nat) (L s : List UInt8) (bad : Int) (w : World) (hr : Rf w r g L s bad) : Calls Try.prog 63 #[rp r] w fun e w' => e = .returned (.int .i64 (doneS s bad)) ∧ Only (fun _ => False) w w' := rdone_c r g L s bad w hr
def rOffC (z : List (List UInt8 × Int)) (y : List (List UInt8) × List UInt8 × Int) (s : List UInt8) (bad : Int) : (List (List UInt8 × Int) × List (List UInt8)) × Bool :=
  ((z, y.1), doneB s (failB bad (decide (doneS y.2.1 y.2.2 ≠ 0 ∨ z.length ≠ y.1.length ∨ z.length < 1 ∨ 4 < z.length))))
def rOffB (z : List (List UInt8 × Int) × List UInt8 × Int) (s : List UInt8) (bad : Int) (last : Bool) : (List (List UInt8 × Int) × List (List UInt8)) × Bool :=
  let u := vecS s (failB bad (decide (doneS z.2.1 z.2.2 ≠ 0 ∨ last = false))) 2 0 65535
  rOffC z.1 (loopL bF (u.1.length + 1) u.1 0) u.2.1 u.2.2
def rOffA (v : List UInt8 × List UInt8 × Int) (last : Bool) : (List (List UInt8 × Int) × List (List UInt8)) × Bool := rOffB (loopL iF (v.1.length + 1) v.1 0) v.2.1 v.2.2 last
def RceI (q0 : Nat) (S : Nat → Prop) (w : World) (z0 : Z10) (y : Cl × Bool) (e : Ending) (w' : World) : Prop := e = .returned (.bool y.2) ∧ (∃ z, CB w' q0 (fun k => S k ∨ w.heap.size ≤ k) y.1 z ∧ z.p6 = z0.p6 ∧ z.n6 = z0.n6 ∧ z.c6 = z0.c6) ∧ Only (· = q0) w w'

theorem isCl_step {wa wb : World} {S : Nat → Prop} {st : Cl} {z : Z10} {W r2 q0 g3 M : Nat} (hS0 : ¬ S q0) (h1 : W ≤ r2) (h2 : W ≤ M) (hh : IsCl wa (fun k => S k ∧ k < W) st z) (ho : Only (fun k => k = r2 ∨ k = q0 ∨ k = g3) wa wb) (hg : M ≤ g3) : IsCl wb (fun k => S k ∧ k < W) st z :=
  hh.only ho (by intro k hk e; rcases e with e | e | e; omega; subst e; exact hS0 hk.1; omega)
theorem isCl_step2 {wa wb : World} {S : Nat → Prop} {st : Cl} {z : Z10} {W W3 R r2 q0 g3 M n9 c9 : Nat} {p9 : Option Addr} {ids : List (List UInt8 × Int)} (hS0 : ¬ S q0) (h1 : W ≤ r2) (h2 : W ≤ M) (h3 : q0 < W3) (h4 : R ≤ r2) (h5 : R ≤ M) (hh : IsCl wa (fun k => S k ∧ k < W) st z ∧ SlId wa (fun k => W3 ≤ k ∧ k < R) p9 n9 c9 ids) (ho : Only (fun k => k = r2 ∨ k = q0 ∨ k = g3) wa wb) (hg : M ≤ g3) : IsCl wb (fun k => S k ∧ k < W) st z ∧ SlId wb (fun k => W3 ≤ k ∧ k < R) p9 n9 c9 ids :=
  ⟨isCl_step hS0 h1 h2 hh.1 ho hg, hh.2.only ho (by intro k hk e; rcases e with e | e | e <;> omega)⟩
/-- What both loops leave, put together. -/
theorem k41_end {w w3 x3 w9 : World} {q0 r2 r r3 n9 c9 : Nat} {p9 : Option Addr} {S : Nat → Prop} {st : Cl} {z : Z10} {s4 : List UInt8} {b4 d2 : Int} {is2 : Bool} {Y : List (List UInt8 × Int) × List UInt8 × Int} {X : List (List UInt8) × List UInt8 × Int} (hS0 : ¬ S q0) (hlen : st.R.length = 32) (hq : q0 < w.heap.size) (hw3 : w.heap.size ≤ w3.heap.size) (hr : w.heap.size ≤ r) (hr2 : w.heap.size < r2) (hr3 : w3.heap.size ≤ r3) (hx3 : w3.heap.size ≤ x3.heap.size)
    (his : is2 = decide (d2 ≠ 0 ∨ n9 ≠ X.1.length ∨ n9 < 1 ∨ 4 < n9) ∧ d2 = doneS X.2.1 X.2.2) (hn9 : n9 = Y.1.length) (h0 : Only (fun _ => False) w w3) (h1 : Only (fun k => k = r2 ∨ k = q0 ∨ k = r) w3 x3)
    (hH : HeldC BdL (fun p n c => clV st ((z.u9 p9 n9 c9).u10 p n c)) w9 q0 48 23 1 x3.heap.size X.1) (hI : IsCl w9 (fun k => S k ∧ k < w.heap.size) st z) (hS9 : SlId w9 (fun k => w3.heap.size ≤ k ∧ k < r3) p9 n9 c9 Y.1) (ho : Only (fun k => k = r3 ∨ k = q0 ∨ k = r) x3 w9) :
    RceI q0 S w z ({ st with ids := (rOffC Y.1 X s4 b4).1.1, bnd := (rOffC Y.1 X s4 b4).1.2 }, (rOffC Y.1 X s4 b4).2) (.returned (.bool (doneS s4 (failB b4 is2) == 0))) w9 := by
  obtain ⟨his, hdd⟩ := his
  refine ⟨?_, ?_, ((h0.mono (s := fun k => k = q0) (fun _ _ h => h.elim)).trans h1 (fun _ h => h) (fun k hk h => by omega)).trans ho (fun _ h => h) (fun k hk h => by omega)⟩
  · rw [his, hdd, hn9]
    exact congrArg Ending.returned (congrArg Value.bool done_eq)
  · obtain ⟨p10, c10, g10, L, hb, hR, hM, hL, _⟩ := hH
    obtain ⟨p', c', he, hat⟩ := hL.at hR
    cases he
    have hm := hI.mono (T := fun k => S k ∨ w.heap.size ≤ k) (fun _ _ h => .inl h.1)
    exact ⟨(z.u9 p9 n9 c9).u10 p10 X.1.length c10, ⟨hb, ⟨hm.len, hm.s1, hm.s2, hm.s3, hm.s4, hm.s5, hm.s6, hm.s7, hm.s8, (hS9.mono (T := fun k => S k ∨ w.heap.size ≤ k) (fun k _ h => .inr (by omega)) : SlId w9 _ p9 n9 c9 Y.1), ⟨rfl, hat.1.mono (fun k _ h => by rcases h with h | h; exact .inr (by omega); exact .inr (by omega)), hat.2⟩⟩⟩, rfl, rfl, rfl⟩

set_option maxHeartbeats 20000000 in
theorem rce41 (q0 : Nat) (w : World) (S : Nat → Prop) (st : Cl) (z : Z10) (gb : Nat) (p : Option Addr) (c : Nat) (s : List UInt8) (last : Bool) (hA : CB w q0 S st z) (hS0 : ¬ S q0) (hO : Own w gb (.slice p s.length c) s) (hgb : gb ≠ q0) (gx : Nat) (hgx : gx < w.heap.size) (hgx0 : gx ≠ q0) (hl : s.length ≤ 140737488355328) (h9p : z.p9 = none) (h9n : z.n9 = 0) (h9c : z.c9 = 0) (h10p : z.p10 = none) (h10n : z.n10 = 0) (h10c : z.c10 = 0) :
    Calls Try.prog 104 #[rp q0, .int .i64 41, .slice p s.length c, .bool last] w (RceI q0 S w z (rcliF st 41 s last)) := by
  have hF : rcliF st 41 s last = ({ st with ids := (rOff s last).1.1, bnd := (rOff s last).1.2 }, (rOff s last).2) := rfl
  have hlen := hA.i.len
  rw [hF]
  clear hF
  have hOf : rOff s last = rOffA (vecS s 0 2 0 65535) last := rfl
  rw [hOf]
  clear hOf
  obtain ⟨g, r, w1, hr, hw1, hz1, hgq, hrq, hgl, hRf, hB1, hA1⟩ := ext_new hA hO hgb gx hgx hgx0
  have hsh : (vecS s 0 2 0 65535).1.length ≤ 65535 := vecS_short s 0 2 0 65535
  have HU := Lib.hid (fun wx (h : Rf wx r g s s 0) => rvector_c r g s s 0 2 0 65535 wx h hl)
  generalize vecS s 0 2 0 65535 = v at *
  obtain ⟨B, s1, b1⟩ := v
  simp only at hsh HU ⊢
  have hOf : rOffA (B, s1, b1) last = rOffB (loopL iF (B.length + 1) B 0) s1 b1 last := rfl
  rw [hOf]
  clear hOf
  obtain ⟨Y, hY⟩ : ∃ Y, Y = loopL iF (B.length + 1) B 0 := ⟨_, rfl⟩
  rw [← hY]
  have hYl : Y.1.length ≤ 65536 := by rw [hY]; have := loopL_len iF iF_less iF_left (B.length + 1) B 0; omega
  have hlt := hA.b.lt
  have hz9 := zero9 h9p h9n h9c
  have hz10 := zero10 h10p h10n h10c
  have HY := Lib.hid (And.intro hY (And.intro hz9 hz10))
  obtain ⟨dd, hdd⟩ : ∃ dd, dd = doneS Y.2.1 Y.2.2 := ⟨_, rfl⟩
  obtain ⟨is, his⟩ : ∃ is, is = decide (dd ≠ 0 ∨ last = false) := ⟨_, rfl⟩
  have hOfB : rOffB Y s1 b1 last = rOffC Y.1 (loopL bF ((vecS s1 (failB b1 is) 2 0 65535).1.length + 1) (vecS s1 (failB b1 is) 2 0 65535).1 0) (vecS s1 (failB b1 is) 2 0 65535).2.1 (vecS s1 (failB b1 is) 2 0 65535).2.2 := by rw [his, hdd]; rfl
  rw [hOfB]
  have HIS := Lib.hid his
  have HDD := Lib.hid hdd
  clear hOfB hdd his
  have hsh2 : (vecS s1 (failB b1 is) 2 0 65535).1.length ≤ 65535 := vecS_short s1 (failB b1 is) 2 0 65535
  have HU2 := Lib.hid (fun wx (h : Rf wx r g s s1 (failB b1 is)) => rvector_c r g s s1 (failB b1 is) 2 0 65535 wx h hl)
  generalize vecS s1 (failB b1 is) 2 0 65535 = v2 at *
  obtain ⟨C, s4, b4⟩ := v2
  simp only at hsh2 HU2 ⊢
  obtain ⟨X, hX⟩ : ∃ X, X = loopL bF (C.length + 1) C 0 := ⟨_, rfl⟩
  rw [← hX]
  have hXl : X.1.length ≤ 65536 := by rw [hX]; have := loopL_len bF bF_less bF_left (C.length + 1) C 0; omega
  have HX := Lib.hid (And.intro hX trivial)
  clear hX
  have HA := Lib.hid (And.intro hA1 (And.intro hRf hB1))
  clear hA hA1 hO hRf hB1 hY hz9 hz10 h9p h9n h9c h10p h10n h10c
  go_enter Try.func104, Try.ntmps104
  go_upto_region 2 with (fail)
  rw [← hw1, ← hr]
  have hrge : w.heap.size ≤ r := by omega
  have hrlt : r < w1.heap.size := by omega
  have hwz : w.heap.size < w1.heap.size := by omega
  clear hw1 hr hz1
  go_upto_block 3 with (go_at_call 60; refine (HU.out _ HA.out.2.1).mono ?_; rintro e w2 ⟨g', p1, c1, rfl, hg', hO1, hc, ho⟩; have H2 := Lib.hid (And.intro hO1 (And.intro hc ho)); have hz2 := ho.size; clear hO1 hc ho)
  obtain ⟨hpn, hnc, hcm⟩ : (p1 = none → c1 = 0) ∧ B.length ≤ c1 ∧ c1 ≤ maxLen := by
    obtain ⟨p', c', he, h1, h2, _, h3, _⟩ := H2.out.1.form
    cases he
    exact ⟨h3, h1, h2⟩
  obtain ⟨gi, hgi, hgo, hRi⟩ := Rf.new (q := gx) H2.out.1.rd rfl hpn (own_spot H2.out.1) hnc hcm (by omega)
  have hB3 : Below w2.heap.size w2 (w2.alloc (.cells #[.slice p1 B.length c1, .int .i64 0, .int .i64 0] 109)) := (Below.refl _ _).alloc (Nat.le_refl _) _
  have hz3 := World.size_alloc w2 (.cells #[.slice p1 B.length c1, .int .i64 0, .int .i64 0] 109)
  have hgi0 : gi ≠ q0 := by
    rcases hgo with h | ⟨o, h⟩
    · omega
    · obtain ⟨p', c', he, _, _, _, _, h3⟩ := H2.out.1.form
      cases he
      obtain ⟨h4, _⟩ := h3 _ h
      cases h4
      omega
  generalize w2.alloc (.cells #[.slice p1 B.length c1, .int .i64 0, .int .i64 0] 109) = w3 at *
  have hA3 : CB w3 q0 (fun k => S k ∧ k < w.heap.size) st z := (HA.out.1.only H2.out.2.2 (fun k hk => by subst hk; exact ⟨fun h => by omega, hrq⟩)).only (Only.of_below (r := fun _ => False) hB3) (fun _ h => h.elim)
  have hO3 : Only (fun _ => False) w w3 := ((Only.of_below HA.out.2.2).trans (H2.out.2.2.then (Only.of_below hB3)) (fun _ h => h) (fun k hk h => by omega))
  have hK3 : KG IdL (fun p n c => clV st (z.u9 p n c)) 51 2 (fun wx => IsCl wx (fun k => S k ∧ k < w.heap.size) st z) w3 q0 w2.heap.size gi r g w3.heap.size B s s1 b1 [] B 0 w3 :=
    ⟨HeldC.nil idK (by show Blk w3 q0 _ (clV st (z.u9 none 0 0)); rw [← HY.out.2.1]; exact hA3.b), hA3.i, hRi, H2.out.2.1.only (Only.of_below (r := fun _ => False) hB3) (fun h => h) (fun h => h), Only.refl _ _⟩
  have K3 := Lib.hid (And.intro hK3 hO3)
  obtain ⟨r2, hr2⟩ : ∃ r2, r2 = w2.heap.size := ⟨_, rfl⟩
  rw [← hr2] at K3 ⊢
  have h2a : r < r2 := by omega
  have h2b : r2 < w3.heap.size := by omega
  have h2c : gi < r2 := by omega
  have h2d : g < r2 := by omega
  have h2e : q0 < r := by omega
  have h2f : q0 < w.heap.size := hlt
  have h2g : w.heap.size ≤ w3.heap.size := by omega
  have h2h : w.heap.size < r2 := by omega
  clear hB3 hA3 hO3 hK3 hRi hgo hgi hz3 hr2 hpn hnc hcm HA H2 hz2 hg' hwz
  go_cut [13] (fun _ wx => KG IdL (fun p n c => clV st (z.u9 p n c)) 51 2 (fun wx => IsCl wx (fun k => S k ∧ k < w.heap.size) st z) w3 q0 r2 gi r g w3.heap.size B s s1 b1 Y.1 Y.2.1 Y.2.2 wx)
  case first =>
    go_wp2_with fail
    go_loopg [13] (B.length + 1) (fun n v13 wr => ∃ A t bad, KG IdL (fun p n c => clV st (z.u9 p n c)) 51 2 (fun wx => IsCl wx (fun k => S k ∧ k < w.heap.size) st z) w3 q0 r2 gi r g w3.heap.size B s s1 b1 A t bad wr ∧ joinL A (loopL iF n t bad) = Y ∧ (bad = 0 → t.length < n) ∧ A.length + t.length ≤ B.length + (if bad = 0 then 0 else 1))
    case atStart => exact ⟨[], B, 0, K3.out.1, HY.out.1.symm, fun _ => by omega, by simp⟩
    case round =>
      obtain ⟨A, t, bad, hN, hE, hn, hl2⟩ := hrel
      have HR := Lib.hid (And.intro hN (And.intro hE (And.intro hn hl2)))
      have hwr := hN.ho.size
      clear hN hE hn hl2
      by_cases hgo : t.length ≠ 0 ∧ bad = 0
      · obtain ⟨ht0, hbad⟩ := hgo
        have hpos : 0 < t.length := by omega
        have hposI : (0 : Int) < (t.length : Int) := by omega
        subst hbad
        have hn := HR.out.2.2.1 rfl
        have hl2 := HR.out.2.2.2
        rw [if_pos rfl] at hl2
        obtain ⟨m, rfl⟩ : ∃ m, gk = m + 1 := ⟨gk - 1, by omega⟩
        have hne : t ≠ [] := by intro h; rw [h] at ht0; exact ht0 rfl
        have hless := iF_less t hne
        have hleft := iF_left t
        have hgo := joinL_go iF A m t hne
        have hE := HR.out.2.1
        rw [hgo] at hE
        have hF : iF t = (((vecS t 0 2 1 255).1, (rU (vecS t 0 2 1 255).2.1 (vecS t 0 2 1 255).2.2 4).1), (rU (vecS t 0 2 1 255).2.1 (vecS t 0 2 1 255).2.2 4).2) := rfl
        have HU1 := Lib.hid (fun wx (h : Rf wx r2 gi B t 0) => rvector_c r2 gi B t 0 2 1 255 wx h (by omega))
        obtain ⟨u1, hu1⟩ : ∃ u, u = vecS t 0 2 1 255 := ⟨_, rfl⟩
        rw [← hu1] at HU1 hF
        obtain ⟨ke, t1, e1⟩ := u1
        simp only at HU1 hF
        clear hu1
        have HU2 := Lib.hid (fun wx (h : Rf wx r2 gi B t1 e1) => rfu_c r2 gi B t1 e1 4 wx h (by omega))
        obtain ⟨u2, hu2⟩ : ∃ u, u = rU t1 e1 4 := ⟨_, rfl⟩
        rw [← hu2] at HU2 hF
        obtain ⟨x, t2, e2⟩ := u2
        simp only at HU2 hF
        clear hu2
        rw [hF] at hless hE hleft
        simp only at hless hE hleft
        have HE := Lib.hid hE
        clear hF hE hgo hne
        go_upto_region 24 with (first
          | (go_at_call 103; refine (rleft_c r2 gi B t 0 _ HR.out.1.inn).mono ?_; rintro e w4 ⟨rfl, ho4⟩; have H4 := Lib.hid (HR.out.1.quiet idK (fun wy ho hh => IsCl.only hh ho (fun _ _ h => h)) ho4); have d2 := H4.out.inn.c2; have hz4 := ho4.size; clear ho4)
          | (go_at_call 60; refine (HU1.out _ H4.out.inn).mono ?_; rintro e w5 ⟨kg, kp, kc, rfl, hkg, hKO, hc, ho⟩; have H5 := Lib.hid (And.intro hc (And.intro ho hKO)); have hkz : w4.heap.size ≤ kg := hkg; have hz5 := ho.size; clear hc ho hKO))
        have hK4 := H4.out.held
        have hi5 : IsCl w5 (fun k => S k ∧ k < w.heap.size) st z := IsCl.only H4.out.i H5.out.2.1 (by intro k hk e; omega)
        have hout5 := H4.out.out.only H5.out.2.1 (by omega) (by omega)
        have ho35 := H4.out.ho.then (H5.out.2.1.mono (fun _ _ h => .inl h))
        obtain ⟨p6, c6, hB6, hHP⟩ := hK4.parts idK (ra := r2) (by omega) (by omega) (by omega)
        have hw5 : w3.heap.size ≤ w4.heap.size := by omega
        have c0 : w5.cell? ⟨q0, 40, none⟩ = some (.slice p6 A.length c6) := (hB6.only H5.out.2.1 (by omega)).d40 hlen
        have HP := Lib.hid (And.intro hHP (And.intro hi5 (And.intro hout5 ho35)))
        have HVd := Lib.hid (show Rf w5.drew r2 gi B t1 e1 from H5.out.1.only ((Only.refl (fun _ => False) w5).drew) (fun h => h) (fun h => h))
        have hkl1 := own_lt H5.out.2.2
        clear hK4 hHP hi5 hout5 ho35 hB6 d2
        go_region_law (first
          | (refine step_append_row rfl _ _ 45 rfl 51 (.agg #[.slice none 0 0, .int .i64 0]) 2 32 Try.underlying45 Try.infoIdR rfl (by decide) g3 (.slice p6 A.length c6) A.length L (by simp [Act.eval, Act.put]) (Row.only HG.out.2.1 (Only.of_below (r := fun _ => False) HB.out) (fun h => h)) ⟨w6.heap.size, 0, none⟩ 1 1 [.slice kp ke.length kc, .int .i64 x] (by simp [Act.eval, Act.put]) rfl (cell_two w6 _ _ _) (by simp [Value.oneCell']) (by simp only [maxLen]; omega) (by omega) (w6.heap.size + 1) (by simp) ?_; intro g4 v2 w7 hrow hg4 hO7q; have hO7 : Only (· = g3) w6 w7 := (Only.of_below (r := fun k => k = g3) HB.out).then hO7q; have hV7 := HG.out.1.only hO7 (by omega); have c7 := hV7.d40 hlen; have f7 := hV7.fr 40; obtain ⟨p5, k5, rfl, -⟩ := Row.form hrow; have H7 := Lib.hid (And.intro hrow (And.intro hO7 hV7)); clear hrow hO7q hO7 hV7)
          | (go_simp; go_at_call 57; refine (HU2.out _ HVd.out).mono ?_; rintro e w6 ⟨rfl, hc, hoq⟩; have hoo5 : Only (· = r2) w5 w6 := ⟨hoq.os, hoq.tape, hoq.output, hoq.size, hoq.block⟩; have hoo : Only (· = r2) w4 w6 := H5.out.2.1.then hoo5; have hKO6 := H5.out.2.2.only hoo5 (by omega); have HK2 := Lib.hid (And.intro hKO6 (own_lt hKO6)); obtain ⟨g3, L, hv3, hr3, hp3, hM3, hg3⟩ := HP.out.1 w6 hoo; have c6' : w6.cell? ⟨q0, 40, none⟩ = some (.slice p6 A.length c6) := hv3.d40 hlen; have f6' := hv3.fr 40; have hb6 : Below w6.heap.size w6 (w6.alloc (.cells #[.slice kp ke.length kc, .int .i64 x] 51)) := (Below.refl _ _).alloc (Nat.le_refl _) _; have ca6 : (w6.alloc (.cells #[.slice kp ke.length kc, .int .i64 x] 51)).cell? ⟨q0, 40, none⟩ = some (.slice p6 A.length c6) := (hv3.below hb6).d40 hlen; have HB := Lib.hid hb6; have HG := Lib.hid (And.intro hv3 (And.intro hr3 hp3)); have H6 := Lib.hid (And.intro hc hoo); have hz6 := hoo.size; have HQ5 := Lib.hid hoo5; clear hoq hc hoo hoo5 hKO6 hv3 hr3 hp3 hb6))
        all_goals
          have hq0M : q0 < w3.heap.size := by omega
          have hst := HeldC.step (T := 48) (e := 51) (sz := 2) (off := 40) (U := (fun p n c => clV st (z.u9 p n c))) idK (a := (ke, x)) (p0 := p6) (n0 := A.length) (c0 := c6) (clV_setIf (z := z.u9 p6 A.length c6) (z' := z.u9 p5 (A.length + 1) k5) hlen 8 (.slice p5 (A.length + 1) k5) rfl) HG.out.2.2 hM3 hg3 hz6 hw5 H7.out.2.2 H7.out.1 hg4 H7.out.2.1 hq0M (fun S w' hS ho h => h.push (ke, x) kp ke.length kc rfl (rd_new HK2.out.1 hkz HK2.out.2 hS ho (by intro h; omega) (by omega)) (own_nilc HK2.out.1))
          have ho7 : Only (fun k => k = r2 ∨ k = q0 ∨ k = g3) w5 (w7.setCell ⟨q0, 40, none⟩ (.slice p5 (A.length + 1) k5)) := ((HQ5.out.mono (fun _ _ h => .inl h)).then (H7.out.2.1.mono (fun _ _ h => .inr (.inr h)))).setCell _ _ (.inl (.inr (.inl rfl)))
          have ho67 : Only (fun k => k = g3 ∨ k = q0) w6 (w7.setCell ⟨q0, 40, none⟩ (.slice p5 (A.length + 1) k5)) := (H7.out.2.1.mono (fun _ _ h => .inl h)).setCell _ _ (.inl (.inr rfl))
          have hN7 : KG IdL (fun p n c => clV st (z.u9 p n c)) 51 2 (fun wx => IsCl wx (fun k => S k ∧ k < w.heap.size) st z) w3 q0 r2 gi r g w3.heap.size B s s1 b1 (A ++ [(ke, x)]) t2 e2 (w7.setCell ⟨q0, 40, none⟩ (.slice p5 (A.length + 1) k5)) :=
            ⟨hst, isCl_step hS0 (by omega) (by omega) HP.out.2.1 ho7 hM3, H6.out.1.only ho67 (by omega) (by omega), HP.out.2.2.1.only ho7 (by omega) (by omega), HP.out.2.2.2.trans ho7 (fun _ h => h) (fun k hk h => by rcases h with h | h | h; exact .inl h; exact .inr h; omega)⟩
          have HN7 := Lib.hid hN7
          clear hst ho7 ho67 hN7
          go_wp2
          go_roundg m
          case measure => omega
          case rel =>
            refine ⟨A ++ [(ke, x)], t2, e2, HN7.out, HE.out, ?_, ?_⟩
            · intro h0
              rcases hless with h | h
              · omega
              · exact absurd h0 h
            · rw [List.length_append, List.length_singleton]
              rcases hless with h | h
              · split <;> omega
              · rw [if_neg h]; omega
      · have hstop : t = [] ∨ bad ≠ 0 := by
          by_cases h : t.length = 0
          · exact .inl (List.eq_nil_of_length_eq_zero h)
          · exact .inr (fun e => hgo ⟨h, e⟩)
        have hYA : (A, t, bad) = Y := by rw [← HR.out.2.1, joinL_stop iF A gk t bad hstop]
        have HYY := Lib.hid hYA
        clear hYA hstop
        by_cases ht0 : t.length = 0
        case' pos =>
          have htz : ¬ (0 : Int) < (t.length : Int) := by omega
          go_wp2_with (go_at_call 103; refine (rleft_c r2 gi B t bad _ HR.out.1.inn).mono ?_; rintro e w4 ⟨rfl, ho4⟩; have H4 := Lib.hid (HR.out.1.quiet idK (fun wy ho hh => IsCl.only hh ho (fun _ _ h => h)) ho4); have d2 := H4.out.inn.c2; have hz4 := ho4.size; clear ho4)
        case' neg =>
          have hposI : (0 : Int) < (t.length : Int) := by omega
          have hbb : (bad == 0) = false := by
            have : bad ≠ 0 := fun e => hgo ⟨ht0, e⟩
            simpa using this
          go_wp2_with (go_at_call 103; refine (rleft_c r2 gi B t bad _ HR.out.1.inn).mono ?_; rintro e w4 ⟨rfl, ho4⟩; have H4 := Lib.hid (HR.out.1.quiet idK (fun wy ho hh => IsCl.only hh ho (fun _ _ h => h)) ho4); have d2 := H4.out.inn.c2; have hz4 := ho4.size; clear ho4)
        all_goals
          go_meet
          have hYY := HYY.out
          subst hYY
          exact H4.out
  case rest =>
    have G1 := Lib.hid hcut
    have hwc := hcut.ho.size
    clear hcut
    have HD1 := Lib.hid (fun wx (h : Rf wx r2 gi B Y.2.1 Y.2.2) => (HDD.out ▸ rdone_c r2 gi B Y.2.1 Y.2.2 wx h : Calls Try.prog 63 #[rp r2] wx (fun e w' => e = .returned (.int .i64 dd) ∧ Only (fun _ => False) wx w')))
    obtain ⟨bq, hbq⟩ : ∃ bq, bq = failB b1 is := ⟨_, rfl⟩
    rw [← hbq] at HU2
    have HBQ := Lib.hid hbq
    clear hbq
    go_upto_region 25 with (fail)
    go_cut [143] (fun _ wx => HeldC IdL (fun p n c => clV st (z.u9 p n c)) wx q0 48 51 2 w3.heap.size Y.1 ∧ IsCl wx (fun k => S k ∧ k < w.heap.size) st z ∧ Rf wx r g s s1 bq ∧ Only (fun k => k = r2 ∨ k = q0 ∨ k = r) w3 wx)
    case first =>
      have HFL := Lib.hid (fun wx (h : Rf wx r g s s1 b1) => (HBQ.out ▸ rfail_c r g s s1 b1 is wx h : Calls Try.prog 58 #[rp r, .bool is] wx (RfR wx r g s (s1, bq))))
      by_cases hd : dd = 0
      case' neg =>
        have hdb : (dd != 0) = true := by simpa using hd
        obtain rfl : is = true := by rw [HIS.out]; exact decide_eq_true (.inl hd)
        clear hd
      case' pos =>
        subst hd
        cases last
        case' false =>
          obtain rfl : is = true := by rw [HIS.out]; exact decide_eq_true (.inr rfl)
        case' true =>
          obtain rfl : is = false := by rw [HIS.out]; exact decide_eq_false (by rintro (h | h); exact h rfl; cases h)
      all_goals
        go_wp2_with (first
          | (go_at_call 63; refine (HD1.out _ G1.out.inn).mono ?_; rintro e w6 ⟨rfl, ho6⟩; have G6 := Lib.hid (G1.out.quiet idK (fun wy ho hh => IsCl.only hh ho (fun _ _ h => h)) ho6); clear ho6)
          | (go_at_call 58; refine (HFL.out _ G6.out.out).mono ?_; rintro e w8 ⟨rfl, hR8, ho8⟩; have K8 := Lib.hid (And.intro (G6.out.held.only idK ho8 (by omega) (by intro k hk _ e; omega)) (And.intro (IsCl.only G6.out.i ho8 (by intro k hk e; omega)) (And.intro hR8 ((G6.out.ho.mono (s := fun k => k = r2 ∨ k = q0 ∨ k = r) (fun k _ h => by rcases h with h | h; exact .inl h; exact .inr (.inl h))).then (ho8.mono (fun k _ h => .inr (.inr h))))))); clear hR8 ho8))
        go_meet
        exact K8.out
    case rest =>
      have G2 := Lib.hid hcut
      have hwc2 := hcut.2.2.2.size
      clear hcut G1 HD1 HIS
      go_upto_block 5 with (go_at_call 60; refine (HU2.out _ G2.out.2.2.1).mono ?_; rintro e x2 ⟨g', p1, c1, rfl, hg', hO1, hc, ho⟩; have H2 := Lib.hid (And.intro hO1 (And.intro hc ho)); have hz2 := ho.size; clear hO1 hc ho)
      obtain ⟨hpn, hnc, hcm⟩ : (p1 = none → c1 = 0) ∧ C.length ≤ c1 ∧ c1 ≤ maxLen := by
        obtain ⟨p', c', he, h1, h2, _, h3, _⟩ := H2.out.1.form
        cases he
        exact ⟨h3, h1, h2⟩
      obtain ⟨gj, hgj, hgo, hRj⟩ := Rf.new (q := gx) H2.out.1.rd rfl hpn (own_spot H2.out.1) hnc hcm (by omega)
      have hB4 : Below x2.heap.size x2 (x2.alloc (.cells #[.slice p1 C.length c1, .int .i64 0, .int .i64 0] 109)) := (Below.refl _ _).alloc (Nat.le_refl _) _
      have hz4 := World.size_alloc x2 (.cells #[.slice p1 C.length c1, .int .i64 0, .int .i64 0] 109)
      have hgj0 : gj ≠ q0 := by
        rcases hgo with h | ⟨o, h⟩
        · omega
        · obtain ⟨p', c', he, _, _, _, _, h3⟩ := H2.out.1.form
          cases he
          obtain ⟨h4, _⟩ := h3 _ h
          cases h4
          omega
      generalize x2.alloc (.cells #[.slice p1 C.length c1, .int .i64 0, .int .i64 0] 109) = x3 at *
      have hO43 : Only (· = r) wc x3 := H2.out.2.2.then (Only.of_below hB4)
      have hhd := G2.out.1.only idK H2.out.2.2 (by omega) (by intro k hk _ e; omega)
      obtain ⟨p9, c9, g9, L9, hb9, hr9, hg9, hl9, _⟩ := hhd
      obtain ⟨p', c', he', hat9⟩ := hl9.at hr9
      cases he'
      obtain ⟨n9, hn9⟩ : ∃ n9, n9 = Y.1.length := ⟨_, rfl⟩
      have hsl9 : SlId x3 (fun k => w3.heap.size ≤ k ∧ k < x2.heap.size) p9 n9 c9 Y.1 := SlId.only (w := x2) ⟨hn9.symm, hat9.1.mono (fun k hk h => by rcases h with h | h; exact ⟨h.1, hk⟩; exact ⟨by omega, hk⟩), hat9.2.1, by rw [hn9]; exact hat9.2.2.1, hat9.2.2.2⟩ (Only.of_below (r := fun _ => False) hB4) (fun _ _ h => h)
      have hb9 := hb9.below hB4
      rw [← hn9] at hb9 hYl
      have hK4 : KG BdL (fun p n c => clV st ((z.u9 p9 n9 c9).u10 p n c)) 23 1 (fun wx => IsCl wx (fun k => S k ∧ k < w.heap.size) st z ∧ SlId wx (fun k => w3.heap.size ≤ k ∧ k < x2.heap.size) p9 n9 c9 Y.1) x3 q0 x2.heap.size gj r g x3.heap.size C s s4 b4 [] C 0 x3 :=
        ⟨HeldC.nil bdK (by show Blk x3 q0 _ (clV st ((z.u9 p9 n9 c9).u10 none 0 0)); rw [← HY.out.2.2]; exact hb9), ⟨G2.out.2.1.only hO43 (by intro k hk e; omega), hsl9⟩, hRj, H2.out.2.1.only (Only.of_below (r := fun _ => False) hB4) (fun h => h) (fun h => h), Only.refl _ _⟩
      have J3 := Lib.hid (And.intro hK4 ((G2.out.2.2.2.mono (s := fun k => k = r2 ∨ k = q0 ∨ k = r) (fun _ _ h => h)).then (hO43.mono (fun _ _ h => .inr (.inr h)))))
      have HN9 := Lib.hid hn9
      obtain ⟨r3, hr3⟩ : ∃ r3, r3 = x2.heap.size := ⟨_, rfl⟩
      rw [← hr3] at J3 ⊢
      have h3a : r2 < r3 := by omega
      have h3b : r3 < x3.heap.size := by omega
      have h3c : gj < r3 := by omega
      have h3d : w3.heap.size ≤ r3 := by omega
      have h3e : w3.heap.size ≤ x3.heap.size := by omega
      clear hB4 hO43 hb9 hr9 hl9 hat9 hsl9 hK4 hRj hgo hgj hz4 hr3 hpn hnc hcm H2 hz2 hg' hn9 G2 HU2
      go_cut [150] (fun _ wx => KG BdL (fun p n c => clV st ((z.u9 p9 n9 c9).u10 p n c)) 23 1 (fun wx => IsCl wx (fun k => S k ∧ k < w.heap.size) st z ∧ SlId wx (fun k => w3.heap.size ≤ k ∧ k < r3) p9 n9 c9 Y.1) x3 q0 r3 gj r g x3.heap.size C s s4 b4 X.1 X.2.1 X.2.2 wx)
      case first =>
        go_wp2_with fail
        go_loopg [150] (C.length + 1) (fun n v150 wr => ∃ A t bad, KG BdL (fun p n c => clV st ((z.u9 p9 n9 c9).u10 p n c)) 23 1 (fun wx => IsCl wx (fun k => S k ∧ k < w.heap.size) st z ∧ SlId wx (fun k => w3.heap.size ≤ k ∧ k < r3) p9 n9 c9 Y.1) x3 q0 r3 gj r g x3.heap.size C s s4 b4 A t bad wr ∧ joinL A (loopL bF n t bad) = X ∧ (bad = 0 → t.length < n) ∧ A.length + t.length ≤ C.length + (if bad = 0 then 0 else 1))
        case atStart => exact ⟨[], C, 0, J3.out.1, HX.out.1.symm, fun _ => by omega, by simp⟩
        case round =>
          obtain ⟨A, t, bad, hN, hE, hn, hl2⟩ := hrel
          have HR := Lib.hid (And.intro hN (And.intro hE (And.intro hn hl2)))
          have hwr := hN.ho.size
          clear hN hE hn hl2
          by_cases hgo : t.length ≠ 0 ∧ bad = 0
          · obtain ⟨ht0, hbad⟩ := hgo
            have hpos : 0 < t.length := by omega
            have hposI : (0 : Int) < (t.length : Int) := by omega
            subst hbad
            have hn := HR.out.2.2.1 rfl
            have hl2 := HR.out.2.2.2
            rw [if_pos rfl] at hl2
            obtain ⟨m, rfl⟩ : ∃ m, gk = m + 1 := ⟨gk - 1, by omega⟩
            have hne : t ≠ [] := by intro h; rw [h] at ht0; exact ht0 rfl
            have hless := bF_less t hne
            have hleft := bF_left t
            have hgo := joinL_go bF A m t hne
            have hE := HR.out.2.1
            rw [hgo] at hE
            have hF : bF t = vecS t 0 1 32 32 := rfl
            have HU1 := Lib.hid (fun wx (h : Rf wx r3 gj C t 0) => rvector_c r3 gj C t 0 1 32 32 wx h (by omega))
            obtain ⟨u1, hu1⟩ : ∃ u, u = vecS t 0 1 32 32 := ⟨_, rfl⟩
            rw [← hu1] at HU1 hF
            obtain ⟨ke, t2, e2⟩ := u1
            simp only at HU1 hF
            clear hu1
            rw [hF] at hless hE hleft
            simp only at hless hE hleft
            have HE := Lib.hid hE
            clear hF hE hgo hne
            go_upto_region 28 with (go_at_call 103; refine (rleft_c r3 gj C t 0 _ HR.out.1.inn).mono ?_; rintro e w4 ⟨rfl, ho4⟩; have H4 := Lib.hid (HR.out.1.quiet bdK (fun wy ho hh => ⟨IsCl.only hh.1 ho (fun _ _ h => h), hh.2.only ho (fun _ _ h => h)⟩) ho4); have d2 := H4.out.inn.c2; have hz4 := ho4.size; clear ho4)
            obtain ⟨w5, hw54⟩ : ∃ w5, w5 = w4 := ⟨_, rfl⟩
            rw [← hw54] at H4 hz4 d2 ⊢
            clear hw54
            have hK5 := H4.out.held
            have hi5 := H4.out.i
            have hout5 := H4.out.out
            have ho35 := H4.out.ho
            obtain ⟨p6, c6, hB6, hHP⟩ := hK5.parts bdK (ra := r3) (by omega) (by omega) (by omega)
            have hw5 : x3.heap.size ≤ w5.heap.size := by omega
            have c0 : w5.cell? ⟨q0, 41, none⟩ = some (.slice p6 A.length c6) := hB6.d41 hlen
            have HP := Lib.hid (And.intro hHP (And.intro hi5 (And.intro hout5 ho35)))
            have HVd := Lib.hid (show Rf w5.drew r3 gj C t 0 from H4.out.inn.only ((Only.refl (fun _ => False) w5).drew) (fun h => h) (fun h => h))
            clear hK5 hHP hi5 hout5 ho35 hB6 d2
            go_region_law (first
              | (refine step_append_row rfl _ _ 46 rfl 23 (.slice none 0 0) 1 24 Try.underlying46 Try.infoBsE rfl (by decide) g3 (.slice p6 A.length c6) A.length L (by simp [Act.eval, Act.put]) (Row.only HG.out.2.1 (Only.of_below (r := fun _ => False) HB.out) (fun h => h)) ⟨w6.heap.size, 0, none⟩ 1 1 [.slice kp ke.length kc] (by simp [Act.eval, Act.put]) rfl (cell_one w6 _ _) (by simp [Value.oneCell']) (by simp only [maxLen]; omega) (by omega) (w6.heap.size + 1) (by simp) ?_; intro g4 v2 w7 hrow hg4 hO7q; have hO7 : Only (· = g3) w6 w7 := (Only.of_below (r := fun k => k = g3) HB.out).then hO7q; have hV7 := HG.out.1.only hO7 (by omega); have c7 := hV7.d41 hlen; have f7 := hV7.fr 41; obtain ⟨p5, k5, rfl, -⟩ := Row.form hrow; have H7 := Lib.hid (And.intro hrow (And.intro hO7 hV7)); clear hrow hO7q hO7 hV7)
              | (go_simp; go_at_call 60; refine (HU1.out _ HVd.out).mono ?_; rintro e w6 ⟨kg, kp, kc, rfl, hkg, hKO, hc, hoq⟩; have hoo : Only (· = r3) w5 w6 := ⟨hoq.os, hoq.tape, hoq.output, hoq.size, hoq.block⟩; have hkz : w5.heap.size ≤ kg := hkg; have HK2 := Lib.hid (And.intro hKO (own_lt hKO)); obtain ⟨g3, L, hv3, hr3, hp3, hM3, hg3⟩ := HP.out.1 w6 hoo; have c6' : w6.cell? ⟨q0, 41, none⟩ = some (.slice p6 A.length c6) := hv3.d41 hlen; have f6' := hv3.fr 41; have hb6 : Below w6.heap.size w6 (w6.alloc (.cells #[.slice kp ke.length kc] 23)) := (Below.refl _ _).alloc (Nat.le_refl _) _; have ca6 : (w6.alloc (.cells #[.slice kp ke.length kc] 23)).cell? ⟨q0, 41, none⟩ = some (.slice p6 A.length c6) := (hv3.below hb6).d41 hlen; have HB := Lib.hid hb6; have HG := Lib.hid (And.intro hv3 (And.intro hr3 hp3)); have H6 := Lib.hid (And.intro hc hoo); have hz6 := hoo.size; clear hoq hc hoo hKO hv3 hr3 hp3 hb6))
            all_goals
              have hq0M : q0 < x3.heap.size := by omega
              have hst := HeldC.step (T := 48) (e := 23) (sz := 1) (off := 41) (U := (fun p n c => clV st ((z.u9 p9 n9 c9).u10 p n c))) bdK (a := ke) (p0 := p6) (n0 := A.length) (c0 := c6) (clV_setIf (z := (z.u9 p9 n9 c9).u10 p6 A.length c6) (z' := (z.u9 p9 n9 c9).u10 p5 (A.length + 1) k5) hlen 9 (.slice p5 (A.length + 1) k5) rfl) HG.out.2.2 hM3 hg3 hz6 hw5 H7.out.2.2 H7.out.1 hg4 H7.out.2.1 hq0M (fun S w' hS ho h => h.push ke kp ke.length kc rfl (rd_new HK2.out.1 hkz HK2.out.2 hS ho (by intro h; omega) (by omega)) (own_nilc HK2.out.1))
              have ho7 : Only (fun k => k = r3 ∨ k = q0 ∨ k = g3) w5 (w7.setCell ⟨q0, 41, none⟩ (.slice p5 (A.length + 1) k5)) := ((H6.out.2.mono (fun _ _ h => .inl h)).then (H7.out.2.1.mono (fun _ _ h => .inr (.inr h)))).setCell _ _ (.inl (.inr (.inl rfl)))
              have ho67 : Only (fun k => k = g3 ∨ k = q0) w6 (w7.setCell ⟨q0, 41, none⟩ (.slice p5 (A.length + 1) k5)) := (H7.out.2.1.mono (fun _ _ h => .inl h)).setCell _ _ (.inl (.inr rfl))
              have hN7 : KG BdL (fun p n c => clV st ((z.u9 p9 n9 c9).u10 p n c)) 23 1 (fun wx => IsCl wx (fun k => S k ∧ k < w.heap.size) st z ∧ SlId wx (fun k => w3.heap.size ≤ k ∧ k < r3) p9 n9 c9 Y.1) x3 q0 r3 gj r g x3.heap.size C s s4 b4 (A ++ [ke]) t2 e2 (w7.setCell ⟨q0, 41, none⟩ (.slice p5 (A.length + 1) k5)) :=
                ⟨hst, isCl_step2 hS0 (by omega) (by omega) (by omega) (Nat.le_refl _) (by omega) HP.out.2.1 ho7 hM3, H6.out.1.only ho67 (by omega) (by omega), HP.out.2.2.1.only ho7 (by omega) (by omega), HP.out.2.2.2.trans ho7 (fun _ h => h) (fun k hk h => by rcases h with h | h | h; exact .inl h; exact .inr h; omega)⟩
              have HN7 := Lib.hid hN7
              clear hst ho7 ho67 hN7
              go_wp2
              go_roundg m
              case measure => omega
              case rel =>
                refine ⟨A ++ [ke], t2, e2, HN7.out, HE.out, ?_, ?_⟩
                · intro h0
                  rcases hless with h | h
                  · omega
                  · exact absurd h0 h
                · rw [List.length_append, List.length_singleton]
                  rcases hless with h | h
                  · split <;> omega
                  · rw [if_neg h]; omega
          · have hstop : t = [] ∨ bad ≠ 0 := by
              by_cases h : t.length = 0
              · exact .inl (List.eq_nil_of_length_eq_zero h)
              · exact .inr (fun e => hgo ⟨h, e⟩)
            have hYA : (A, t, bad) = X := by rw [← HR.out.2.1, joinL_stop bF A gk t bad hstop]
            have HYY := Lib.hid hYA
            clear hYA hstop
            by_cases ht0 : t.length = 0
            case' pos =>
              have htz : ¬ (0 : Int) < (t.length : Int) := by omega
              go_wp2_with (go_at_call 103; refine (rleft_c r3 gj C t bad _ HR.out.1.inn).mono ?_; rintro e w4 ⟨rfl, ho4⟩; have H4 := Lib.hid (HR.out.1.quiet bdK (fun wy ho hh => ⟨IsCl.only hh.1 ho (fun _ _ h => h), hh.2.only ho (fun _ _ h => h)⟩) ho4); have d2 := H4.out.inn.c2; have hz4 := ho4.size; clear ho4)
            case' neg =>
              have hposI : (0 : Int) < (t.length : Int) := by omega
              have hbb : (bad == 0) = false := by
                have : bad ≠ 0 := fun e => hgo ⟨ht0, e⟩
                simpa using this
              go_wp2_with (go_at_call 103; refine (rleft_c r3 gj C t bad _ HR.out.1.inn).mono ?_; rintro e w4 ⟨rfl, ho4⟩; have H4 := Lib.hid (HR.out.1.quiet bdK (fun wy ho hh => ⟨IsCl.only hh.1 ho (fun _ _ h => h), hh.2.only ho (fun _ _ h => h)⟩) ho4); have d2 := H4.out.inn.c2; have hz4 := ho4.size; clear ho4)
            all_goals
              go_meet
              have hYY := HYY.out
              subst hYY
              exact H4.out
      case rest =>
        have G3 := Lib.hid hcut
        clear hcut
        obtain ⟨d2, hd2⟩ : ∃ d2, d2 = doneS X.2.1 X.2.2 := ⟨_, rfl⟩
        obtain ⟨is2, his2⟩ : ∃ is2, is2 = decide (d2 ≠ 0 ∨ n9 ≠ X.1.length ∨ n9 < 1 ∨ 4 < n9) := ⟨_, rfl⟩
        have HI2 := Lib.hid (And.intro his2 hd2)
        have HDN := Lib.hid (fun wx (h : Rf wx r3 gj C X.2.1 X.2.2) => (hd2 ▸ rdone_c r3 gj C X.2.1 X.2.2 wx h : Calls Try.prog 63 #[rp r3] wx (fun e w' => e = .returned (.int .i64 d2) ∧ Only (fun _ => False) wx w')))
        obtain ⟨n10, hn10⟩ : ∃ n10, n10 = X.1.length := ⟨_, rfl⟩
        have HN10 := Lib.hid hn10
        have hXl2 : n10 ≤ 65536 := by omega
        have HFI := Lib.hid (show is2 = decide (d2 ≠ 0 ∨ n9 ≠ n10 ∨ n9 < 1 ∨ 4 < n9) by rw [hn10]; exact his2)
        clear his2 hd2 hn10
        go_upto_region 29 with (fail)
        have hcl : ∀ wx, Only (fun _ => False) wc wx → ∃ p10 c10, wx.cell? ⟨q0, 40, none⟩ = some (.slice p9 n9 c9) ∧ wx.cell? ⟨q0, 41, none⟩ = some (.slice p10 n10 c10) := by
          intro wx ho
          obtain ⟨p10, c10, _, _, hb, _⟩ := (G3.out.quiet bdK (fun wy ho hh => ⟨IsCl.only hh.1 ho (fun _ _ h => h), hh.2.only ho (fun _ _ h => h)⟩) ho).held
          rw [← HN10.out] at hb
          exact ⟨p10, c10, hb.d40 hlen, hb.d41 hlen⟩
        have HCL := Lib.hid hcl
        clear hcl
        by_cases hd : d2 = 0
        case' neg =>
          have hdb : (d2 != 0) = true := by simpa using hd
          obtain rfl : is2 = true := by rw [HFI.out]; exact decide_eq_true (.inl hd)
          clear hd
        case' pos =>
          subst hd
          by_cases h1 : n9 = n10
          case' neg =>
            have hdb : ((n9 : Int) != (n10 : Int)) = true := by simp; omega
            obtain rfl : is2 = true := by rw [HFI.out]; exact decide_eq_true (.inr (.inl h1))
            clear h1
          case' pos =>
            have hdb : ((n9 : Int) != (n10 : Int)) = false := by simp; omega
            by_cases hA1 : n9 < 1
            case' pos =>
              have hdb2 : decide ((n9 : Int) < 1) = true := by simp; omega
              obtain rfl : is2 = true := by rw [HFI.out]; exact decide_eq_true (.inr (.inr (.inl hA1)))
              have H1 := Lib.hid (And.intro h1 hA1)
              clear h1 hA1
            case' neg =>
              have hdb2 : decide ((n9 : Int) < 1) = false := by simp; omega
              by_cases hA4 : 4 < n9
              case' pos =>
                have hdb3 : decide (4 < (n9 : Int)) = true := by simp; omega
                obtain rfl : is2 = true := by rw [HFI.out]; exact decide_eq_true (.inr (.inr (.inr hA4)))
                have H1 := Lib.hid (And.intro h1 (And.intro hA1 hA4))
                clear h1 hA1 hA4
              case' neg =>
                have hdb3 : decide (4 < (n9 : Int)) = false := by simp; omega
                obtain rfl : is2 = false := by rw [HFI.out]; exact decide_eq_false (by rintro (h | h | h | h); exact h rfl; exact h h1; exact hA1 h; exact hA4 h)
                have H1 := Lib.hid (And.intro h1 (And.intro hA1 hA4))
                clear h1 hA1 hA4
        all_goals
          have GD := Lib.hid (G3.out.inn.only ((Only.refl (fun _ => False) wc).drew) (fun h => h) (fun h => h))
          refine wp_region_any (by kernel_rfl) ?_
          try (change wpAny _ _ _ _ _ _ _ (World.drew _))
          refine wpAny_take (i := 0) (v := ?_) rfl (by kernel_rfl) (by kernel_rfl) (by kernel_rfl) (fun _ _ _ h => h) (Or.inl ⟨by rfl, ?_⟩) ?_
          rotate_left
          · intro w; go_simp; with_reducible rfl
          refine wpAny_take (i := 1) (v := ?_) rfl (by kernel_rfl) (by kernel_rfl) (by kernel_rfl) (fun _ _ _ h => h) (Or.inl ⟨by rfl, ?_⟩) ?_
          rotate_left
          · intro w; go_simp; with_reducible rfl
          refine wpAny_ready (rs := [2]) (by kernel_rfl) (by simp) ?_
          refine AllReady.cons rfl (fun K hK => ?_) AllReady.nil
          go_simp
          go_at_call 63
          refine (HDN.out _ GD.out).mono ?_
          rintro e w6 ⟨rfl, ho6q⟩
          have ho6 : Only (fun _ => False) wc w6 := ⟨ho6q.os, ho6q.tape, ho6q.output, ho6q.size, ho6q.block⟩
          obtain ⟨p10, c10, hc40, hc41⟩ := HCL.out w6 ho6
          have G6 := Lib.hid (G3.out.quiet bdK (fun wy ho hh => ⟨IsCl.only hh.1 ho (fun _ _ h => h), hh.2.only ho (fun _ _ h => h)⟩) ho6)
          clear ho6q ho6
          try go_simp
          refine hK _ _ ?_
          clear hK K
          refine wpAny_still_tail 33 3 _ _ rfl (by kernel_rfl) (wpStill_of_quiet _ _ ?_)
          simp only [List.take_succ_cons, List.take_zero, List.drop_succ_cons, List.drop_zero]
          repeat (go_big_quiet_step (fail))
          refine wpQuiet_nil ?_
          go_wp2_with (first
            | (go_at_call 58; refine (rfail_c r g s s4 b4 _ _ G6.out.out).mono ?_; rintro e w8 ⟨rfl, hR8, ho8⟩; have K8 := Lib.hid (And.intro (G6.out.held.only bdK ho8 (by omega) (by intro k hk _ e; omega)) (And.intro (IsCl.only G6.out.i.1 ho8 (by intro k hk e; omega)) (And.intro (G6.out.i.2.only ho8 (by intro k hk e; omega)) (And.intro hR8 ((G6.out.ho.mono (s := fun k => k = r3 ∨ k = q0 ∨ k = r) (fun k _ h => by rcases h with h | h; exact .inl h; exact .inr (.inl h))).then (ho8.mono (fun k _ h => .inr (.inr h)))))))); clear hR8 ho8)
            | (go_at_call 63; refine (rdone_c r g s s4 _ _ K8.out.2.2.2.1).mono ?_; rintro e w9 ⟨rfl, ho9⟩))
          go_ret
          exact k41_end hS0 hlen h2f h2g hrge h2h h3d (by omega) HI2.out HN9.out K3.out.2 (J3.out.2.mono (fun _ _ h => h)) (K8.out.1.only bdK ho9 (fun h => h) (fun _ _ _ h => h)) (IsCl.only K8.out.2.1 ho9 (fun _ _ h => h)) (K8.out.2.2.1.only ho9 (fun _ _ h => h)) (K8.out.2.2.2.2.then (ho9.mono (fun _ _ h => h.elim)))

end Go.Proofs.Ytegmimnhkohaoaa
