/-
  The contracts of message.Put, message.PutUpdate and message.Take. Conditions: at most 2 to the 47th bytes.
-/
import Derived.Test.YtkgeecejgpekkaaStr
import Derived.Test.YtkgeecejgpekkaaBack
namespace Go.Proofs.Ytkgeecejgpekkaa
open Go.RowKit Go.Kx

/-- A message's bytes. -/
def msgB (k : Nat) (l : List UInt8) : List UInt8 := be k 1 ++ be l.length 3 ++ l
theorem msgB_length (k : Nat) (l : List UInt8) : (msgB k l).length = l.length + 4 := by
  unfold msgB
  rw [List.length_append, List.length_append, be_length, be_length]
  omega

def MPutNo (w : World) (e : Ending) (w' : World) : Prop := e = .returned (.tuple #[.slice none 0 0, .int .i64 1]) ∧ Below w.heap.size w w'
def MPutYes (w : World) (X : List UInt8) (e : Ending) (w' : World) : Prop := ∃ g n c, e = .returned (.tuple #[.slice (some ⟨g, 0, none⟩) n c, .int .i64 0]) ∧ X.length = n ∧ w.heap.size ≤ g ∧ g < w'.heap.size ∧ n ≤ c ∧ c ≤ maxLen ∧ Own w' g (.slice (some ⟨g, 0, none⟩) n c) X ∧ Below w.heap.size w w'

theorem mput_no (k : Int) (p : Option Addr) (n c : Nat) (w : World) (h : ¬ ((0 ≤ k ∧ k < 256) ∧ n ≤ 2048)) :
    Calls Try.prog 6 #[.agg #[.int .i64 k, .slice p n c]] w (MPutNo w) := by
  have q := qbytes
  by_cases hk : putOk k 1
  · obtain ⟨K, rfl⟩ : ∃ K : Nat, k = K := ⟨k.toNat, by have := hk.2.1; omega⟩
    have hK : K < 256 := by have := hk.2.2; simp at this; omega
    have hn : ¬ n ≤ 2048 := fun hh => h ⟨⟨by omega, by omega⟩, hh⟩
    have hnI : (2048 : Int) < (n : Int) := by omega
    have hB0 : Below w.heap.size w (w.alloc (.cells #[.int .i64 (K : Int), .slice p n c] 29)) := (Below.refl _ _).alloc (Nat.le_refl _) _
    have hbx : Box2 (w.alloc (.cells #[.int .i64 (K : Int), .slice p n c] 29)) w.heap.size 29 (.int .i64 (K : Int)) (.slice p n c) := Box2.new _ _ _ _
    have HB := Lib.hid (And.intro hB0 hbx)
    have c0 := hbx.c0
    clear hB0 hbx hk h
    go_enter Try.func6, Try.ntmps6
    go_wp2_with (go_at_call 20; refine (put_yes (fun _ => True) none 0 0 [] K 1 _ (Rd.nil _ _ _) (fun _ => rfl) (by simp) rfl (by omega) (by simpa using hK)).mono ?_; rintro e w1 ⟨g, n1, c1, rfl, l1, z1, z2, y1, y2, o1, b1⟩; have c1' := (HB.out.2.only (.of_below b1 (r := fun _ => False)) (fun h => h)).c1)
    go_ret2
    exact ⟨rfl, HB.out.1.trans (b1.mono HB.out.1.size)⟩
  · have hB0 : Below w.heap.size w (w.alloc (.cells #[.int .i64 k, .slice p n c] 29)) := (Below.refl _ _).alloc (Nat.le_refl _) _
    have hbx : Box2 (w.alloc (.cells #[.int .i64 k, .slice p n c] 29)) w.heap.size 29 (.int .i64 k) (.slice p n c) := Box2.new _ _ _ _
    have HB := Lib.hid (And.intro hB0 hbx)
    have c0 := hbx.c0
    have HK := Lib.hid hk
    clear hB0 hbx hk h
    go_enter Try.func6, Try.ntmps6
    go_wp2_with (go_at_call 20; refine (put_no _ k 1 _ HK.out).mono ?_; rintro e w1 ⟨rfl, b1⟩)
    go_ret2
    exact ⟨rfl, HB.out.1.trans (b1.mono HB.out.1.size)⟩

theorem mput_yes (K : Nat) (S : Nat → Prop) (p : Option Addr) (n c : Nat) (l : List UInt8) (w : World) (hK : K < 256) (hn : n ≤ 2048) (hR : Rd w S p l) (hp : p = none → c = 0) (hl : l.length = n) :
    Calls Try.prog 6 #[.agg #[.int .i64 (K : Int), .slice p n c]] w (MPutYes w (msgB K l)) := by
  have q := qbytes
  have hnI : ¬ (2048 : Int) < (n : Int) := by omega
  have hB0 : Below w.heap.size w (w.alloc (.cells #[.int .i64 (K : Int), .slice p n c] 29)) := (Below.refl _ _).alloc (Nat.le_refl _) _
  have hbx : Box2 (w.alloc (.cells #[.int .i64 (K : Int), .slice p n c] 29)) w.heap.size 29 (.int .i64 (K : Int)) (.slice p n c) := Box2.new _ _ _ _
  have hR1 := hR.below hB0
  have HB := Lib.hid (And.intro hB0 hbx)
  have c0 := hbx.c0
  have HR := Lib.hid hR1
  clear hB0 hbx hR hR1
  go_enter Try.func6, Try.ntmps6
  go_wp2_with (first
    | (go_at_call 20; refine (put_yes (fun _ => True) none 0 0 [] K 1 _ (Rd.nil _ _ _) (fun _ => rfl) (by simp) rfl (by omega) (by simpa using hK)).mono ?_; rintro e w1 ⟨g, n1, c1, rfl, l1, z1, z2, y1, y2, o1, b1⟩; have c1' := (HB.out.2.only (.of_below b1 (r := fun _ => False)) (fun h => h)).c1)
    | (go_at_call 21; refine (vec_yes (· = g) S _ p n1 c1 n c ([] ++ be K 1) l 3 _ o1.rd (by intro h; cases h) l1 (HR.out.below b1) hp hl (by rw [List.length_append, be_length]; show 0 + 1 + 4 + _ ≤ _; omega) (by omega) (by omega)).mono ?_; rintro e w2 ⟨g2, n2, c2, rfl, l2, z3, z4, y3, y4, o2, b2⟩))
  go_ret2
  have hz := HB.out.1.size
  subst hl
  exact ⟨g2, n2, c2, rfl, by rw [← l2]; simp [msgB], by have := b1.size; omega, z4, y3, y4, by have : [] ++ be K 1 ++ be l.length 3 ++ l = msgB K l := by simp [msgB]
                                                                                               rw [← this]; exact o2, HB.out.1.trans ((b1.mono hz).trans (b2.mono (by have := b1.size; omega)))⟩

theorem mput_update (b : Bool) (w : World) : Calls Try.prog 28 #[.bool b] w fun e w' => e = .returned (.slice (some ⟨w.heap.size, 0, none⟩) 1 1) ∧ w.alloc (.cells #[.int .u8 (if b then 1 else 0)] 5) = w' := by
  cases b
  · go_enter Try.func28, Try.ntmps28
    go_wp2
    go_ret
    exact ⟨rfl, rfl⟩
  · go_enter Try.func28, Try.ntmps28
    go_wp2
    go_ret
    exact ⟨rfl, rfl⟩

/-! ### Take -/
/-- What Take tells: the kind, the body, the rest, whether there is one, the error. -/
def takeM (b : List UInt8) : Nat × List UInt8 × List UInt8 × Bool × Int :=
  if b.length < 4 then (0, [], b, false, 0)
  else
    let n := beN ((b.drop 1).take 3)
    if 2048 < n then (0, [], [], false, 3)
    else if b.length < n + 4 then (0, [], b, false, 0)
    else (beN (b.take 1), (b.drop 4).take n, (b.drop 4).drop n, true, 0)

def TakeMR (w : World) (x : Nat × List UInt8 × List UInt8 × Bool × Int) (e : Ending) (w' : World) : Prop :=
  ∃ g1 p1 n1 c1 g2 p2 n2 c2, e = .returned (.tuple #[.agg #[.int .i64 (x.1 : Int), .slice p1 n1 c1], .slice p2 n2 c2, .bool x.2.2.2.1, .int .i64 x.2.2.2.2]) ∧ x.2.1.length = n1 ∧ x.2.2.1.length = n2 ∧ w.heap.size ≤ g1 ∧ w.heap.size ≤ g2 ∧
    Own w' g1 (.slice p1 n1 c1) x.2.1 ∧ Own w' g2 (.slice p2 n2 c2) x.2.2.1 ∧ Below w.heap.size w w'

theorem set2_only (w : World) (r : Nat) (u v : Value) : Only (· = r) w ((w.setCell ⟨r, 0, none⟩ u).setCell ⟨r, 1, none⟩ v) := ((Only.refl (fun k => k = r) w).setCell ⟨r, 0, none⟩ u (.inl rfl)).setCell ⟨r, 1, none⟩ v (.inl rfl)

set_option maxHeartbeats 4000000 in
theorem mtake_c (S : Nat → Prop) (p : Option Addr) (n c : Nat) (b : List UInt8) (w : World) (hR : Rd w S p b) (hp : p = none → c = 0) (hl : b.length ≤ 140737488355328) (hn : b.length = n) :
    Calls Try.prog 8 #[.slice p n c] w (TakeMR w (takeM b)) := by
  have hB0 : Below w.heap.size w (w.alloc (.cells #[.int .i64 0, .slice none 0 0] 29)) := (Below.refl _ _).alloc (Nat.le_refl _) _
  have hbx : Box2 (w.alloc (.cells #[.int .i64 0, .slice none 0 0] 29)) w.heap.size 29 (.int .i64 0) (.slice none 0 0) := Box2.new _ _ _ _
  have hR1 := hR.below hB0
  have HB := Lib.hid (And.intro hB0 hbx)
  have HR := Lib.hid hR1
  clear hB0 hbx hR hR1
  by_cases h4 : n < 4
  · go_enter Try.func8, Try.ntmps8
    go_wp2_with (first
      | (go_at_call 23; refine (clone_any S p n c b _ HR.out hp hl hn).mono ?_; rintro e w1 ⟨⟨g', p', c', rfl, h1, h2, h3, hb1⟩, h5⟩; have bx1 := HB.out.2.only (.of_below hb1 (r := fun _ => False)) (fun h => h); have t0 := bx1.c0; have t1 := bx1.c1; have f0 := bx1.fr 0; have f1 := bx1.fr 1))
    have bx2 := (bx1.set0 (.int .i64 0)).set1 (.slice none 0 0)
    have d0 := bx2.c0
    have d1 := bx2.c1
    refine bodyPost_ret (v := .tuple #[.agg #[.int .i64 0, .slice none 0 0], .slice p' n c', .bool false, .int .i64 0]) (by simp [results, Try.results8, go_sem, d0, d1]) rfl ?_
    have ht : takeM b = (0, [], b, false, 0) := by unfold takeM; rw [if_pos (by omega)]
    rw [ht]
    have hza : (w.alloc (.cells #[.int .i64 0, .slice none 0 0] 29)).heap.size = w.heap.size + 1 := by simp
    rw [hza] at h1
    rw [hn] at h3
    have hs2 := set2_only w1 w.heap.size (.int .i64 0) (.slice none 0 0)
    have hb2 : Below w.heap.size w w1 := HB.out.1.trans (hb1.mono HB.out.1.size)
    refine ⟨w.heap.size + w1.heap.size, none, 0, 0, g', p', n, c', rfl, rfl, hn, by omega, by omega, Own.nil _ _, h3.only hs2 (by show ¬ g' = _; omega), below_only hb2 hb2.size hs2 (by intro k hk e; omega)⟩
  · obtain ⟨L1, hL1⟩ : ∃ L1, L1 = b.drop 1 := ⟨_, rfl⟩
    obtain ⟨L4, hL4⟩ : ∃ L4, L4 = b.drop 4 := ⟨_, rfl⟩
    obtain ⟨K, hK⟩ : ∃ K, K = beN (b.take 1) := ⟨_, rfl⟩
    obtain ⟨M, hM⟩ : ∃ M, M = beN (L1.take 3) := ⟨_, rfl⟩
    have hL41 : L1.drop 3 = L4 := by rw [hL1, hL4, List.drop_drop]
    have hl1 : L1.length = n - 1 := by rw [hL1, List.length_drop, hn]
    have hl4 : L4.length = n - 4 := by rw [hL4, List.length_drop, hn]
    obtain ⟨a1, a2, a3⟩ := S_app (b.take 1) L1 1 (by rw [List.length_take]; omega)
    rw [show b.take 1 ++ L1 = b by rw [hL1, List.take_append_drop]] at a1 a2 a3
    obtain ⟨b1, b2, b3⟩ := S_app (L1.take 3) L4 3 (by rw [List.length_take]; omega)
    rw [show L1.take 3 ++ L4 = L1 by rw [← hL41, List.take_append_drop]] at b1 b2 b3
    have w1' : wb 0 1 = 0 := by decide
    have w3' : wb 0 3 = 0 := by decide
    have U1 : ∀ r g wx, Cur wx r g b 0 → Calls Try.prog 25 #[rp r, .int .i64 1] wx (fun e w' => e = .returned (.int .i64 (K : Int)) ∧ Cur w' r g L1 0 ∧ Only (· = r) wx w') := by
      intro r g wx h
      refine (uint_c r g b 0 1 wx h).mono ?_
      rintro e w' ⟨h1, h2, h3⟩
      rw [w1', a2, ← hK] at h1
      rw [w1', a1, a3] at h2
      exact ⟨h1, h2, h3⟩
    have U3 : ∀ r g wx, Cur wx r g L1 0 → Calls Try.prog 25 #[rp r, .int .i64 3] wx (fun e w' => e = .returned (.int .i64 (M : Int)) ∧ Cur w' r g L4 0 ∧ Only (· = r) wx w') := by
      intro r g wx h
      refine (uint_c r g L1 0 3 wx h).mono ?_
      rintro e w' ⟨h1, h2, h3⟩
      rw [w3', b2, ← hM] at h1
      rw [w3', b1, b3] at h2
      exact ⟨h1, h2, h3⟩
    have hMb : M < 4294967296 := by rw [hM]; exact beN_small _ (by rw [List.length_take]; omega)
    have UU := Lib.hid (And.intro U1 U3)
    have HKM := Lib.hid (And.intro hK (And.intro hM (And.intro hL1 hL4)))
    have hza : (w.alloc (.cells #[.int .i64 0, .slice none 0 0] 29)).heap.size = w.heap.size + 1 := by simp
    have HZA := Lib.hid hza
    have hl4i : (L4.length : Int) = (n : Int) - 4 := by omega
    have htk : takeM b = if 2048 < M then (0, [], [], false, 3) else if n < M + 4 then (0, [], b, false, 0) else (K, L4.take M, L4.drop M, true, 0) := by
      unfold takeM
      rw [if_neg (by omega)]
      simp only
      rw [← hL1, ← hL4, ← hM, ← hK, hn]
    have HTK := Lib.hid htk
    clear U1 U3 a1 a2 a3 b1 b2 b3 w1' w3' hK hM hL1 hL4 hL41 hza htk
    by_cases hM1 : 2048 < M
    · have hM1i : (2048 : Int) < (M : Int) := by omega
      go_enter Try.func8, Try.ntmps8
      go_wp2_with (first
        | (go_at_call 23; refine (clone_any S p n c b _ HR.out hp hl hn).mono ?_; rintro e w1 ⟨⟨g', p', c', rfl, h1, h2, h3, hb1⟩, h5⟩)
        | (go_at_call 24; refine (new_c S p n c b _ (HR.out.below hb1) hp hl hn).mono ?_; rintro e w2 ⟨r, g, rfl, k1, k2, k3, k4, k5⟩)
        | (go_at_call 25; refine (UU.out.2 r g _ i1).mono ?_; rintro e w4 ⟨rfl, i2, o2⟩; have bx4 := (((HB.out.2.only (.of_below hb1 (r := fun _ => False)) (fun h => h)).only (.of_below k5 (r := fun _ => False)) (fun h => h)).only o1 (by have := HZA.out; have := hb1.size; show ¬ w.heap.size = r; omega)).only o2 (by have := HZA.out; have := hb1.size; show ¬ w.heap.size = r; omega); have f0 := bx4.fr 0; have f1 := bx4.fr 1; have t0 := bx4.c0; have t1 := bx4.c1)
        | (go_at_call 25; refine (UU.out.1 r g _ k4).mono ?_; rintro e w3 ⟨rfl, i1, o1⟩))
      have bx2 := (bx4.set0 (.int .i64 0)).set1 (.slice none 0 0)
      have d0 := bx2.c0
      have d1 := bx2.c1
      refine bodyPost_ret (v := .tuple #[.agg #[.int .i64 0, .slice none 0 0], .slice none 0 0, .bool false, .int .i64 3]) (by simp [results, Try.results8, go_sem, d0, d1]) rfl ?_
      have hza := HZA.out
      have B1 : Below w.heap.size w w1 := HB.out.1.trans (hb1.mono HB.out.1.size)
      have B2 : Below w.heap.size w w2 := B1.trans (k5.mono B1.size)
      have hz1 := hb1.size
      have B3 : Below w.heap.size w w3 := below_only B2 B2.size o1 (by intro k hk e; omega)
      have B4 : Below w.heap.size w w4 := below_only B3 B3.size o2 (by intro k hk e; omega)
      have hs2 := set2_only w4 w.heap.size (.int .i64 0) (.slice none 0 0)
      have B5 := below_only B4 B4.size hs2 (by intro k hk e; omega)
      rw [HTK.out, if_pos hM1]
      exact ⟨w.heap.size + 1, none, 0, 0, w.heap.size + 1, none, 0, 0, rfl, rfl, rfl, by omega, by omega, Own.nil _ _, Own.nil _ _, B5⟩
    · have hM1i : ¬ (2048 : Int) < (M : Int) := by omega
      by_cases hM2 : n < M + 4
      · have hM2i : (n : Int) - 4 < (M : Int) := by omega
        rw [← hl4i] at hM2i
        go_enter Try.func8, Try.ntmps8
        go_wp2_with (first
          | (go_at_call 23; refine (clone_any S p n c b _ HR.out hp hl hn).mono ?_; rintro e w1 ⟨⟨g', p', c', rfl, h1, h2, h3, hb1⟩, h5⟩)
          | (go_at_call 24; refine (new_c S p n c b _ (HR.out.below hb1) hp hl hn).mono ?_; rintro e w2 ⟨r, g, rfl, k1, k2, k3, k4, k5⟩)
          | (go_at_call 25; refine (UU.out.2 r g _ i1).mono ?_; rintro e w4 ⟨rfl, i2, o2⟩; have bx4 := (((HB.out.2.only (.of_below hb1 (r := fun _ => False)) (fun h => h)).only (.of_below k5 (r := fun _ => False)) (fun h => h)).only o1 (by have := HZA.out; have := hb1.size; show ¬ w.heap.size = r; omega)).only o2 (by have := HZA.out; have := hb1.size; show ¬ w.heap.size = r; omega); have f0 := bx4.fr 0; have f1 := bx4.fr 1; have t0 := bx4.c0; have t1 := bx4.c1)
          | (go_at_call 25; refine (UU.out.1 r g _ k4).mono ?_; rintro e w3 ⟨rfl, i1, o1⟩)
          | (go_at_call 26; refine (left_c r g L4 0 _ i2).mono ?_; rintro e w5 ⟨rfl, rfl⟩))
        have bx2 := (bx4.set0 (.int .i64 0)).set1 (.slice none 0 0)
        have d0 := bx2.c0
        have d1 := bx2.c1
        refine bodyPost_ret (v := .tuple #[.agg #[.int .i64 0, .slice none 0 0], .slice p' n c', .bool false, .int .i64 0]) (by simp [results, Try.results8, go_sem, d0, d1]) rfl ?_
        have hza := HZA.out
        have B1 : Below w.heap.size w w1 := HB.out.1.trans (hb1.mono HB.out.1.size)
        have B2 : Below w.heap.size w w2 := B1.trans (k5.mono B1.size)
        have hz1 := hb1.size
        have B3 : Below w.heap.size w w3 := below_only B2 B2.size o1 (by intro k hk e; omega)
        have B4 : Below w.heap.size w w4 := below_only B3 B3.size o2 (by intro k hk e; omega)
        have hs2 := set2_only w4 w.heap.size (.int .i64 0) (.slice none 0 0)
        have B5 := below_only B4 B4.size hs2 (by intro k hk e; omega)
        rw [HTK.out, if_neg hM1, if_pos hM2]
        rw [hn] at h3
        have hg' : w.heap.size + 1 ≤ g' := by omega
        have hgw1 : g' < w1.heap.size ∨ p' = none := by
          obtain ⟨_, _, hx, _, _, _, _, hf⟩ := h3.form
          cases hx
          cases p' with
          | none => exact .inr rfl
          | some a => exact .inl (hf a rfl).2
        have hO : Own ((w4.setCell ⟨w.heap.size, 0, none⟩ (.int .i64 0)).setCell ⟨w.heap.size, 1, none⟩ (.slice none 0 0)) g' (.slice p' n c') b := by
          rcases hgw1 with hgw1 | rfl
          · exact ((((Own.keep h3 k5).only o1 (by show ¬ g' = r; omega)).only o2 (by show ¬ g' = r; omega))).only hs2 (by show ¬ g' = _; omega)
          · obtain ⟨_, _, hx, _, _, hrd, hc0, _⟩ := h3.form
            cases hx
            have hb0 := hrd.none_nil
            subst hb0
            rw [hc0 rfl]
            exact Own.nil _ _
        exact ⟨w.heap.size + 1, none, 0, 0, g', p', n, c', rfl, rfl, hn, by omega, by omega, Own.nil _ _, hO, B5⟩
      · have hM2i : ¬ (n : Int) - 4 < (M : Int) := by omega
        rw [← hl4i] at hM2i
        obtain ⟨BD, hBD⟩ : ∃ BD, BD = L4.take M := ⟨_, rfl⟩
        obtain ⟨LR, hLR⟩ : ∃ LR, LR = L4.drop M := ⟨_, rfl⟩
        obtain ⟨NR, hNR⟩ : ∃ NR, LR.length = NR := ⟨_, rfl⟩
        have hBDl : BD.length = M := by rw [hBD, List.length_take]; omega
        obtain ⟨a1, a2, a3⟩ := S_app BD LR (M : Int) (by rw [hBDl])
        rw [show BD ++ LR = L4 by rw [hBD, hLR, List.take_append_drop]] at a1 a2 a3
        obtain ⟨b1, b2, b3⟩ := S_app LR [] (NR : Int) (by rw [hNR])
        rw [List.append_nil] at b1 b2 b3
        have hll4 : L4.length ≤ 140737488355328 := by omega
        have hlr : LR.length ≤ 140737488355328 := by rw [hLR, List.length_drop]; omega
        have V1 : ∀ r g wx, Cur wx r g L4 0 → Calls Try.prog 27 #[rp r, .int .i64 (M : Int)] wx (fun e w' => ∃ g' p c, e = .returned (.slice p M c) ∧ wx.heap.size ≤ g' ∧ Own w' g' (.slice p M c) BD ∧ Cur w' r g LR 0 ∧ Only (· = r) wx w') := by
          intro r g wx h
          refine (bytes_c r g L4 0 (M : Int) wx h hll4).mono ?_
          rintro e w' ⟨g', p, c, rfl, h1, h2, h3, h4⟩
          rw [a2, hBDl] at h2
          rw [a1, a3] at h3
          exact ⟨g', p, c, by rw [a2, hBDl], h1, h2, h3, h4⟩
        have V2 : ∀ r g wx, Cur wx r g LR 0 → Calls Try.prog 27 #[rp r, .int .i64 (NR : Int)] wx (fun e w' => ∃ g' p c, e = .returned (.slice p NR c) ∧ wx.heap.size ≤ g' ∧ Own w' g' (.slice p NR c) LR ∧ Only (· = r) wx w') := by
          intro r g wx h
          refine (bytes_c r g LR 0 (NR : Int) wx h hlr).mono ?_
          rintro e w' ⟨g', p, c, rfl, h1, h2, h3, h4⟩
          rw [b2, hNR] at h2
          exact ⟨g', p, c, by rw [b2, hNR], h1, h2, h4⟩
        have V3 : ∀ r g wx, Cur wx r g LR 0 → Calls Try.prog 26 #[rp r] wx (fun e w' => e = .returned (.int .i64 (NR : Int)) ∧ wx = w') := by
          intro r g wx h; rw [← hNR]; exact left_c r g LR 0 wx h
        have VV := Lib.hid (And.intro V1 (And.intro V2 V3))
        have HBD := Lib.hid (And.intro (And.intro hBD hBDl) (And.intro hLR hNR))
        clear V1 V2 V3 a1 a2 a3 b1 b2 b3 hBD hLR hNR hBDl hll4 hlr
        go_enter Try.func8, Try.ntmps8
        go_wp2_with (first
          | (go_at_call 23; refine (clone_any S p n c b _ HR.out hp hl hn).mono ?_; rintro e w1 ⟨⟨g', p', c', rfl, h1, h2, h3, hb1⟩, h5⟩)
          | (go_at_call 24; refine (new_c S p n c b _ (HR.out.below hb1) hp hl hn).mono ?_; rintro e w2 ⟨r, g, rfl, k1, k2, k3, k4, k5⟩)
          | (go_at_call 25; refine (UU.out.2 r g _ i1).mono ?_; rintro e w4 ⟨rfl, i2, o2⟩)
          | (go_at_call 25; refine (UU.out.1 r g _ k4).mono ?_; rintro e w3 ⟨rfl, i1, o1⟩)
          | (go_at_call 26; refine (VV.out.2.2 r g _ i5).mono ?_; rintro e w6 ⟨rfl, rfl⟩)
          | (go_at_call 26; refine (left_c r g L4 0 _ i2).mono ?_; rintro e w6 ⟨rfl, rfl⟩)
          | (go_at_call 27; refine (VV.out.2.1 r g _ i5).mono ?_; rintro e w7 ⟨g7, p7, c7, rfl, z7, h7, o7⟩; have bx4 := (((((HB.out.2.only (.of_below hb1 (r := fun _ => False)) (fun h => h)).only (.of_below k5 (r := fun _ => False)) (fun h => h)).only o1 (by have := HZA.out; have := hb1.size; show ¬ w.heap.size = r; omega)).only o2 (by have := HZA.out; have := hb1.size; show ¬ w.heap.size = r; omega)).only o5 (by have := HZA.out; have := hb1.size; show ¬ w.heap.size = r; omega)).only o7 (by have := HZA.out; have := hb1.size; show ¬ w.heap.size = r; omega); have f0 := bx4.fr 0; have f1 := bx4.fr 1; have t0 := bx4.c0; have t1 := bx4.c1)
          | (go_at_call 27; refine (VV.out.1 r g _ i2).mono ?_; rintro e w5 ⟨g5, p5, c5, rfl, z5, h5', i5, o5⟩))
        have bx2 := (bx4.set0 (.int .i64 (K : Int))).set1 (.slice p5 M c5)
        have d0 := bx2.c0
        have d1 := bx2.c1
        refine bodyPost_ret (v := .tuple #[.agg #[.int .i64 (K : Int), .slice p5 M c5], .slice p7 NR c7, .bool true, .int .i64 0]) (by simp [results, Try.results8, go_sem, d0, d1]) rfl ?_
        have hza := HZA.out
        have B1 : Below w.heap.size w w1 := HB.out.1.trans (hb1.mono HB.out.1.size)
        have B2 : Below w.heap.size w w2 := B1.trans (k5.mono B1.size)
        have hz1 := hb1.size
        have B3 : Below w.heap.size w w3 := below_only B2 B2.size o1 (by intro k hk e; omega)
        have B4 : Below w.heap.size w w4 := below_only B3 B3.size o2 (by intro k hk e; omega)
        have B5 : Below w.heap.size w w5 := below_only B4 B4.size o5 (by intro k hk e; omega)
        have B7 : Below w.heap.size w w7 := below_only B5 B5.size o7 (by intro k hk e; omega)
        have hs2 := set2_only w7 w.heap.size (.int .i64 (K : Int)) (.slice p5 M c5)
        have B8 := below_only B7 B7.size hs2 (by intro k hk e; omega)
        have z1 := hb1.size
        have z2 := k5.size
        have z3 := o1.size
        have z4 := o2.size
        have z6 := o5.size
        rw [HTK.out, if_neg hM1, if_neg hM2, ← HBD.out.1.1, ← HBD.out.2.1]
        exact ⟨g5, p5, M, c5, g7, p7, NR, c7, rfl, HBD.out.1.2, HBD.out.2.2, by omega, by omega, (h5'.only o7 (by show ¬ g5 = r; omega)).only hs2 (by show ¬ g5 = _; omega), h7.only hs2 (by show ¬ g7 = _; omega), B8⟩
end Go.Proofs.Ytkgeecejgpekkaa
