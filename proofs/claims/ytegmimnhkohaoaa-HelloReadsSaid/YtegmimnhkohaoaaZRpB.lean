/-
  The contract of relayref08.PutClient. Conditions: those of FitR.
-/
import Derived.Test.YtegmimnhkohaoaaZg7
import Derived.Test.YtegmimnhkohaoaaZg8
import Derived.Deep.CutRange
namespace Go.Proofs.Ytegmimnhkohaoaa
open Go.RowKit Go.Kx
set_option linter.unusedVariables false
set_option linter.unusedSimpArgs false
set_option maxRecDepth 100000

/-- What stays while a Client is put by the document. -/
structure RK (w : World) (M : Nat) (s : Cl) (z : Z10) (wx : World) : Prop where
  b : Blk wx w.heap.size 48 (clV s z)
  i : IsCl wx (· < M) s z
  bel : Below w.heap.size w wx
  hM : M ≤ w.heap.size
section
variable {w wx wy : World} {M : Nat} {s : Cl} {z : Z10} {q : Nat → Prop}
theorem RK.only (h : RK w M s z wx) (ho : Only q wx wy) (hq : ∀ k, k ≤ w.heap.size → ¬ q k) : RK w M s z wy :=
  ⟨h.b.only ho (hq _ (Nat.le_refl _)), h.i.only ho (fun k hk => hq k (by have := h.hM; omega)), below_only h.bel h.bel.size ho (fun k hk => hq k (by omega)), h.hM⟩
theorem RK.below (h : RK w M s z wx) (hb : Below wx.heap.size wx wy) : RK w M s z wy := h.only (Only.of_below (r := fun _ => False) hb) (fun _ _ h => h)
theorem RK.lt (h : RK w M s z wx) : w.heap.size < wx.heap.size := h.b.lt
end
theorem take_zip' {α β : Type} : ∀ (l : List α) (m : List β) (i : Nat), (l.zip m).take i = (l.take i).zip (m.take i)
  | [], _, i => by simp
  | _ :: _, [], i => by cases i <;> simp
  | a :: l, b :: m, 0 => by simp
  | a :: l, b :: m, i + 1 => by simp [take_zip' l m i]
/-- What stays while the extensions are put. -/
structure EPJ (w : World) (M : Nat) (s : Cl) (z : Z10) (N : Nat) (p5 : Option Addr) (n5 c5 : Nat) (p6 : Option Addr) (n6 c6 : Nat) (p7 : Option Addr) (n7 c7 : Nat) (wx : World) : Prop where
  k : RK w M s z wx
  o5 : OB wx p5 n5 c5 (rshL s.shs)
  o6 : OB wx p6 n6 c6 (ridL s.ids)
  o7 : OB wx p7 n7 c7 (rbdL s.bnd)
  x5 : ∀ k, owB p5 n5 c5 k → w.heap.size < k ∧ k < N
  x6 : ∀ k, owB p6 n6 c6 k → w.heap.size < k ∧ k < N
  x7 : ∀ k, owB p7 n7 c7 k → w.heap.size < k ∧ k < N
theorem EPJ.only {w wx wy : World} {M N n5 c5 n6 c6 n7 c7 : Nat} {s : Cl} {z : Z10} {p5 p6 p7 : Option Addr} {q : Nat → Prop} (h : EPJ w M s z N p5 n5 c5 p6 n6 c6 p7 n7 c7 wx) (hN : w.heap.size < N) (ho : Only q wx wy) (hq : ∀ k, q k → N ≤ k) : EPJ w M s z N p5 n5 c5 p6 n6 c6 p7 n7 c7 wy :=
  ⟨h.k.only ho (fun k hk e => by have := hq k e; omega), h.o5.only ho (fun k hk e => by have := hq k e; have := h.x5 k hk; omega), h.o6.only ho (fun k hk e => by have := hq k e; have := h.x6 k hk; omega), h.o7.only ho (fun k hk e => by have := hq k e; have := h.x7 k hk; omega), h.x5, h.x6, h.x7⟩
theorem EPJ.below {w wx wy : World} {M N n5 c5 n6 c6 n7 c7 : Nat} {s : Cl} {z : Z10} {p5 p6 p7 : Option Addr} (h : EPJ w M s z N p5 n5 c5 p6 n6 c6 p7 n7 c7 wx) (hN : w.heap.size < N) (hb : Below wx.heap.size wx wy) : EPJ w M s z N p5 n5 c5 p6 n6 c6 p7 n7 c7 wy := h.only hN (Only.of_below (r := fun _ => False) hb) (fun _ h => h.elim)
/-- No slice of it is too great for a machine. -/
structure FitR (s : Cl) : Prop where
  f1 : s.suites.length ≤ 70368744177664
  f2 : s.vers.length ≤ 70368744177664
  f3 : s.grps.length ≤ 70368744177664
  f4 : s.schs.length ≤ 70368744177664
  f5 : ∀ t ∈ s.shs, t.2.length ≤ 140737488351232
  f6 : ∀ t ∈ s.ids, t.1.length ≤ 140737488351232
  f7 : ∀ b ∈ s.bnd, b.length ≤ 140737488351232
def RPutCR (w : World) (s : Cl) (e : Ending) (w' : World) : Prop :=
  ((rokC s = false ∧ e = .returned (.tuple #[.slice none 0 0, .bool false])) ∨ (rokC s = true ∧ ∃ p n c, e = .returned (.tuple #[.slice p n c, .bool true]) ∧ OB w' p n c (rputCL s) ∧ ∀ k, owB p n c k → w.heap.size ≤ k)) ∧ Below w.heap.size w w'

set_option maxHeartbeats 40000000 in
theorem rputClient_c (s : Cl) (z : Z10) (M : Nat) (w : World) (h : IsCl w (· < M) s z) (hM : M ≤ w.heap.size) (hf : FitR s) : Calls Try.prog 23 #[.agg (clV s z)] w (RPutCR w s) := by
  have hB := Blk.new w 48 (clV s z)
  have hb0 : Below w.heap.size w (w.alloc (.cells (clV s z) 48)) := (Below.refl _ _).alloc (Nat.le_refl _) _
  have hI0 : RK w M s z (w.alloc (.cells (clV s z) 48)) := ⟨hB, h.below hb0, hb0, hM⟩
  obtain ⟨ok1, hok1⟩ : ∃ b, b = ok1C s := ⟨_, rfl⟩
  have HK1 := Lib.hid hok1
  have hlen := h.len
  unfold ok1C at hok1
  rw [h.s1.1, h.s2.1, h.s6.1, h.s7.1, h.s8.1, h.s9.1, h.s10.1] at hok1
  have HF := Lib.hid hf
  clear hB hb0 h hf hM
  go_enter Try.func23, Try.ntmps23
  go_upto_region 1 with (fail)
  generalize w.alloc (.cells (clV s z) 48) = w0 at *
  have I0 := Lib.hid hI0
  clear hI0
  go_cut [4] from 13 to 75 (fun v4 wx => v4 = .bool ok1 ∧ w0 = wx)
  case first =>
    -- <<A
    as_aux_lemma =>
      have c32 := I0.out.b.d32 hlen
      have c33 := I0.out.b.d33 hlen
      have c34 := I0.out.b.d34 hlen
      have c35 := I0.out.b.d35 hlen
      have c36 := I0.out.b.d36 hlen
      have c37 := I0.out.b.d37 hlen
      have c38 := I0.out.b.d38 hlen
      have c39 := I0.out.b.d39 hlen
      have c40 := I0.out.b.d40 hlen
      have c41 := I0.out.b.d41 hlen
      have A2 := Lib.hid (fun wx (hx : RK w M s z wx) => all16_c (· < M) z.p2 z.n2 z.c2 s.suites 8 wx hx.i.s2.2.1 hx.i.s2.1 (by rw [← hx.i.s2.1]; have := HF.out.f1; omega))
      have A3 := Lib.hid (fun wx (hx : RK w M s z wx) => all16_c (· < M) z.p3 z.n3 z.c3 s.vers 4 wx hx.i.s3.2.1 hx.i.s3.1 (by rw [← hx.i.s3.1]; have := HF.out.f2; omega))
      have A4 := Lib.hid (fun wx (hx : RK w M s z wx) => all16_c (· < M) z.p4 z.n4 z.c4 s.grps 4 wx hx.i.s4.2.1 hx.i.s4.1 (by rw [← hx.i.s4.1]; have := HF.out.f3; omega))
      have A5 := Lib.hid (fun wx (hx : RK w M s z wx) => all16_c (· < M) z.p5 z.n5 z.c5 s.schs 4 wx hx.i.s5.2.1 hx.i.s5.1 (by rw [← hx.i.s5.1]; have := HF.out.f4; omega))
      obtain ⟨b2, hb2⟩ : ∃ b, b = all16B s.suites 8 := ⟨_, rfl⟩
      obtain ⟨b3, hb3⟩ : ∃ b, b = all16B s.vers 4 := ⟨_, rfl⟩
      obtain ⟨b4, hb4⟩ : ∃ b, b = all16B s.grps 4 := ⟨_, rfl⟩
      obtain ⟨b5, hb5⟩ : ∃ b, b = all16B s.schs 4 := ⟨_, rfl⟩
      obtain ⟨a0, ha0⟩ : ∃ b, b = decide (z.n1 ≤ 32) := ⟨_, rfl⟩
      obtain ⟨a1, ha1⟩ : ∃ b, b = decide (1 ≤ z.n2) := ⟨_, rfl⟩
      obtain ⟨a6, ha6⟩ : ∃ b, b = decide (z.n6 ≤ 4) := ⟨_, rfl⟩
      obtain ⟨a7, ha7⟩ : ∃ b, b = decide (z.n7 ≤ 64) := ⟨_, rfl⟩
      obtain ⟨a8, ha8⟩ : ∃ b, b = decide (z.n8 ≤ 4) := ⟨_, rfl⟩
      obtain ⟨a9, ha9⟩ : ∃ b, b = decide (z.n9 ≤ 4) := ⟨_, rfl⟩
      obtain ⟨a10, ha10⟩ : ∃ b, b = decide (z.n9 = z.n10) := ⟨_, rfl⟩
      rw [← ha0, ← ha1, ← hb2, ← hb3, ← hb4, ← hb5, ← ha6, ← ha7, ← ha8, ← ha9, ← ha10] at hok1
      rw [← hb2] at A2
      rw [← hb3] at A3
      rw [← hb4] at A4
      rw [← hb5] at A5
      have d0 : decide ((z.n1 : Int) ≤ 32) = a0 := by rw [ha0]; simp; omega
      have d1 : decide ((1 : Int) ≤ (z.n2 : Int)) = a1 := by rw [ha1]; simp; omega
      have d6 : decide ((z.n6 : Int) ≤ 4) = a6 := by rw [ha6]; simp; omega
      have d7 : decide ((z.n7 : Int) ≤ 64) = a7 := by rw [ha7]; simp; omega
      have d8 : decide ((z.n8 : Int) ≤ 4) = a8 := by rw [ha8]; simp; omega
      have d9 : decide ((z.n9 : Int) ≤ 4) = a9 := by rw [ha9]; simp; omega
      have d10 : ((z.n9 : Int) == (z.n10 : Int)) = a10 := by rw [ha10, Bool.eq_iff_iff]; simp; omega
      have HO := Lib.hid hok1
      clear hok1 ha0 ha1 hb2 hb3 hb4 hb5 ha6 ha7 ha8 ha9 ha10
      cases a0
      · go_wp2_with (first
        | (go_at_call 36; have hq := q4; refine (A5.out _ I0.out).mono ?_; rintro e w1 ⟨rfl, rfl⟩)
        | (go_at_call 36; have hq := q3; refine (A4.out _ I0.out).mono ?_; rintro e w1 ⟨rfl, rfl⟩; have q4 := True.intro)
        | (go_at_call 36; have hq := q2; refine (A3.out _ I0.out).mono ?_; rintro e w1 ⟨rfl, rfl⟩; have q3 := True.intro)
        | (go_at_call 36; refine (A2.out _ I0.out).mono ?_; rintro e w1 ⟨rfl, rfl⟩; have q2 := True.intro))
        go_meet
        exact ⟨congrArg Value.bool (by rw [HO.out]; rfl), rfl⟩
      · skip
        cases a1
        · go_wp2_with (first
        | (go_at_call 36; have hq := q4; refine (A5.out _ I0.out).mono ?_; rintro e w1 ⟨rfl, rfl⟩)
        | (go_at_call 36; have hq := q3; refine (A4.out _ I0.out).mono ?_; rintro e w1 ⟨rfl, rfl⟩; have q4 := True.intro)
        | (go_at_call 36; have hq := q2; refine (A3.out _ I0.out).mono ?_; rintro e w1 ⟨rfl, rfl⟩; have q3 := True.intro)
        | (go_at_call 36; refine (A2.out _ I0.out).mono ?_; rintro e w1 ⟨rfl, rfl⟩; have q2 := True.intro))
          go_meet
          exact ⟨congrArg Value.bool (by rw [HO.out]; rfl), rfl⟩
        · skip
          cases b2
          · go_wp2_with (first
        | (go_at_call 36; have hq := q4; refine (A5.out _ I0.out).mono ?_; rintro e w1 ⟨rfl, rfl⟩)
        | (go_at_call 36; have hq := q3; refine (A4.out _ I0.out).mono ?_; rintro e w1 ⟨rfl, rfl⟩; have q4 := True.intro)
        | (go_at_call 36; have hq := q2; refine (A3.out _ I0.out).mono ?_; rintro e w1 ⟨rfl, rfl⟩; have q3 := True.intro)
        | (go_at_call 36; refine (A2.out _ I0.out).mono ?_; rintro e w1 ⟨rfl, rfl⟩; have q2 := True.intro))
            go_meet
            exact ⟨congrArg Value.bool (by rw [HO.out]; rfl), rfl⟩
          · skip
            cases b3
            · go_wp2_with (first
        | (go_at_call 36; have hq := q4; refine (A5.out _ I0.out).mono ?_; rintro e w1 ⟨rfl, rfl⟩)
        | (go_at_call 36; have hq := q3; refine (A4.out _ I0.out).mono ?_; rintro e w1 ⟨rfl, rfl⟩; have q4 := True.intro)
        | (go_at_call 36; have hq := q2; refine (A3.out _ I0.out).mono ?_; rintro e w1 ⟨rfl, rfl⟩; have q3 := True.intro)
        | (go_at_call 36; refine (A2.out _ I0.out).mono ?_; rintro e w1 ⟨rfl, rfl⟩; have q2 := True.intro))
              go_meet
              exact ⟨congrArg Value.bool (by rw [HO.out]; rfl), rfl⟩
            · skip
              cases b4
              · go_wp2_with (first
        | (go_at_call 36; have hq := q4; refine (A5.out _ I0.out).mono ?_; rintro e w1 ⟨rfl, rfl⟩)
        | (go_at_call 36; have hq := q3; refine (A4.out _ I0.out).mono ?_; rintro e w1 ⟨rfl, rfl⟩; have q4 := True.intro)
        | (go_at_call 36; have hq := q2; refine (A3.out _ I0.out).mono ?_; rintro e w1 ⟨rfl, rfl⟩; have q3 := True.intro)
        | (go_at_call 36; refine (A2.out _ I0.out).mono ?_; rintro e w1 ⟨rfl, rfl⟩; have q2 := True.intro))
                go_meet
                exact ⟨congrArg Value.bool (by rw [HO.out]; rfl), rfl⟩
              · skip
                cases b5
                · go_wp2_with (first
        | (go_at_call 36; have hq := q4; refine (A5.out _ I0.out).mono ?_; rintro e w1 ⟨rfl, rfl⟩)
        | (go_at_call 36; have hq := q3; refine (A4.out _ I0.out).mono ?_; rintro e w1 ⟨rfl, rfl⟩; have q4 := True.intro)
        | (go_at_call 36; have hq := q2; refine (A3.out _ I0.out).mono ?_; rintro e w1 ⟨rfl, rfl⟩; have q3 := True.intro)
        | (go_at_call 36; refine (A2.out _ I0.out).mono ?_; rintro e w1 ⟨rfl, rfl⟩; have q2 := True.intro))
                  go_meet
                  exact ⟨congrArg Value.bool (by rw [HO.out]; rfl), rfl⟩
                · skip
                  cases a6
                  · go_wp2_with (first
        | (go_at_call 36; have hq := q4; refine (A5.out _ I0.out).mono ?_; rintro e w1 ⟨rfl, rfl⟩)
        | (go_at_call 36; have hq := q3; refine (A4.out _ I0.out).mono ?_; rintro e w1 ⟨rfl, rfl⟩; have q4 := True.intro)
        | (go_at_call 36; have hq := q2; refine (A3.out _ I0.out).mono ?_; rintro e w1 ⟨rfl, rfl⟩; have q3 := True.intro)
        | (go_at_call 36; refine (A2.out _ I0.out).mono ?_; rintro e w1 ⟨rfl, rfl⟩; have q2 := True.intro))
                    go_meet
                    exact ⟨congrArg Value.bool (by rw [HO.out]; rfl), rfl⟩
                  · skip
                    cases a7
                    · go_wp2_with (first
        | (go_at_call 36; have hq := q4; refine (A5.out _ I0.out).mono ?_; rintro e w1 ⟨rfl, rfl⟩)
        | (go_at_call 36; have hq := q3; refine (A4.out _ I0.out).mono ?_; rintro e w1 ⟨rfl, rfl⟩; have q4 := True.intro)
        | (go_at_call 36; have hq := q2; refine (A3.out _ I0.out).mono ?_; rintro e w1 ⟨rfl, rfl⟩; have q3 := True.intro)
        | (go_at_call 36; refine (A2.out _ I0.out).mono ?_; rintro e w1 ⟨rfl, rfl⟩; have q2 := True.intro))
                      go_meet
                      exact ⟨congrArg Value.bool (by rw [HO.out]; rfl), rfl⟩
                    · skip
                      cases a8
                      · go_wp2_with (first
        | (go_at_call 36; have hq := q4; refine (A5.out _ I0.out).mono ?_; rintro e w1 ⟨rfl, rfl⟩)
        | (go_at_call 36; have hq := q3; refine (A4.out _ I0.out).mono ?_; rintro e w1 ⟨rfl, rfl⟩; have q4 := True.intro)
        | (go_at_call 36; have hq := q2; refine (A3.out _ I0.out).mono ?_; rintro e w1 ⟨rfl, rfl⟩; have q3 := True.intro)
        | (go_at_call 36; refine (A2.out _ I0.out).mono ?_; rintro e w1 ⟨rfl, rfl⟩; have q2 := True.intro))
                        go_meet
                        exact ⟨congrArg Value.bool (by rw [HO.out]; rfl), rfl⟩
                      · skip
                        cases a9
                        · go_wp2_with (first
        | (go_at_call 36; have hq := q4; refine (A5.out _ I0.out).mono ?_; rintro e w1 ⟨rfl, rfl⟩)
        | (go_at_call 36; have hq := q3; refine (A4.out _ I0.out).mono ?_; rintro e w1 ⟨rfl, rfl⟩; have q4 := True.intro)
        | (go_at_call 36; have hq := q2; refine (A3.out _ I0.out).mono ?_; rintro e w1 ⟨rfl, rfl⟩; have q3 := True.intro)
        | (go_at_call 36; refine (A2.out _ I0.out).mono ?_; rintro e w1 ⟨rfl, rfl⟩; have q2 := True.intro))
                          go_meet
                          exact ⟨congrArg Value.bool (by rw [HO.out]; rfl), rfl⟩
                        · skip
                          cases a10
                          · go_wp2_with (first
        | (go_at_call 36; have hq := q4; refine (A5.out _ I0.out).mono ?_; rintro e w1 ⟨rfl, rfl⟩)
        | (go_at_call 36; have hq := q3; refine (A4.out _ I0.out).mono ?_; rintro e w1 ⟨rfl, rfl⟩; have q4 := True.intro)
        | (go_at_call 36; have hq := q2; refine (A3.out _ I0.out).mono ?_; rintro e w1 ⟨rfl, rfl⟩; have q3 := True.intro)
        | (go_at_call 36; refine (A2.out _ I0.out).mono ?_; rintro e w1 ⟨rfl, rfl⟩; have q2 := True.intro))
                            go_meet
                            exact ⟨congrArg Value.bool (by rw [HO.out]; rfl), rfl⟩
                          · go_wp2_with (first
        | (go_at_call 36; have hq := q4; refine (A5.out _ I0.out).mono ?_; rintro e w1 ⟨rfl, rfl⟩)
        | (go_at_call 36; have hq := q3; refine (A4.out _ I0.out).mono ?_; rintro e w1 ⟨rfl, rfl⟩; have q4 := True.intro)
        | (go_at_call 36; have hq := q2; refine (A3.out _ I0.out).mono ?_; rintro e w1 ⟨rfl, rfl⟩; have q3 := True.intro)
        | (go_at_call 36; refine (A2.out _ I0.out).mono ?_; rintro e w1 ⟨rfl, rfl⟩; have q2 := True.intro))
                            go_meet
                            exact ⟨congrArg Value.bool (by rw [HO.out]; rfl), rfl⟩
    -- A>>
  case rest =>
    obtain ⟨rfl, rfl⟩ := hcut
    clear hok1
    -- <<B
    obtain ⟨ok2, hok2⟩ : ∃ b, b = ok2C s := ⟨_, rfl⟩
    have HK2 := Lib.hid hok2
    clear hok2
    have J0 := Lib.hid (I0.out)
    have hw0 := I0.out.lt
    go_upto_block 0 with (fail)
    go_cut [4, 5, 8] from 76 to 108 (fun v4 v5 _ wx => ∃ (p : Option Addr) (n c : Nat) (X : List UInt8), v4 = .bool ok2 ∧ v5 = .slice p n c ∧ OB wx p n c X ∧ (∀ k, owB p n c k → w.heap.size < k) ∧ (ok2 = true → X = rshL s.shs) ∧ RK w M s z wx)
    case first =>
    -- AUX
      -- <<L1
      go_wp2_with fail
      go_loopw [4, 5, 8] (fun v4 v5 v8 wr => ∃ (i : Nat) (b : Bool) (p : Option Addr) (n c : Nat), v8 = .int .i64 (i : Int) ∧ v4 = .bool b ∧ v5 = .slice p n c ∧ i ≤ z.n6 ∧ b = (ok1 && (s.shs.take i).all sB) ∧ (b = false → ok2 = false) ∧ OB wr p n c (rshL (s.shs.take i)) ∧ (∀ k, owB p n c k → w.heap.size < k) ∧ RK w M s z wr) (fun _ _ v8 _ => z.n6 - (intOf v8).toNat)
      case atStart =>
        refine ⟨0, ok1, none, 0, 0, rfl, rfl, rfl, Nat.zero_le _, ?_, ?_, OB.nil _, (fun k h => by cases h), J0.out⟩
        · simp
        · intro h
          rw [HK2.out]
          unfold ok2C
          rw [← HK1.out, h]
          rfl
      case round =>
        obtain ⟨W1, hW⟩ : ∃ W1 : World, W1 = wr := ⟨_, rfl⟩
        rw [← hW] at hrel ⊢
        clear hW
        obtain ⟨i, b, p, n, c, rfl, rfl, rfl, hi, hb, hbf, hO, hx, hK⟩ := hrel
        have HR0 := Lib.hid hO
        have HX := Lib.hid (And.intro hb (And.intro hbf hx))
        have J := Lib.hid hK
        have c37 := hK.b.d37 hlen
        clear hO hb hbf hx hK
        by_cases hlt : i < z.n6
        · have hld : (i : Int) < (z.n6 : Int) := by omega
          have hi0 : (0 : Int) ≤ (i : Int) := by omega
          cases b
          · have hfin := HX.out.2.1 rfl
            subst hfin
            go_wp2
            go_meet
            exact ⟨p, n, c, _, rfl, rfl, HR0.out, HX.out.2.2, (fun h => by cases h), J.out⟩
          · have hok1 : ok1 = true := by
              have h := HX.out.1
              cases ok1
              · simp at h
              · rfl
            have hall : (s.shs.take i).all sB = true := by have h := HX.out.1; rw [hok1] at h; simpa using h
            have hoc := ok1C_of (HK1.out.symm.trans hok1)
            have hsl : s.shs.length = z.n6 := J.out.i.s6.1
            have h4 : z.n6 ≤ 4 := by rw [← hsl]; exact hoc.o7
            have hln : (rshL (s.shs.take i)).length ≤ 272 := by
              have h1 := rshL_le hall
              rw [List.length_take] at h1
              omega
            have hil : i < s.shs.length := by omega
            obtain ⟨gs, o, a, m, kc, hp, hS, hc, hd, hl, hrd, hnl⟩ := J.out.i.s6.2.1 i hil
            have hts : rshL (s.shs.take (i + 1)) = (rshL (s.shs.take i) ++ u16L (s.shs[i]'hil).1) ++ (be (s.shs[i]'hil).2.length 2 ++ (s.shs[i]'hil).2) := by
              rw [List.take_succ_eq_append_getElem hil, rshL_snoc, List.append_assoc]; rfl
            have hta : (s.shs.take (i + 1)).all sB = sB (s.shs[i]'hil) := by
              rw [List.take_succ_eq_append_getElem hil, List.all_append, hall]; simp
            have hfb : sB (s.shs[i]'hil) = false → ok2 = false := by
              intro h
              rw [HK2.out]
              unfold ok2C
              rw [Bool.and_eq_false_iff]
              right
              rw [List.all_eq_false]
              exact ⟨_, List.getElem_mem hil, by rw [h]; simp⟩
            have hkb := HF.out.f5 _ (List.getElem_mem hil)
            obtain ⟨t, ht⟩ : ∃ t, t = s.shs[i]'hil := ⟨_, rfl⟩
            rw [← ht] at hc hl hrd hts hta hfb hkb
            obtain ⟨gr, ke⟩ := t
            simp only at hc hl hrd hts hta hfb hkb
            rw [hl] at hts hkb
            have hsb : sB (gr, ke) = shareB gr m := by unfold sB; rw [hl]
            have HT := Lib.hid (And.intro hts (And.intro hta (And.intro hfb (And.intro hl (And.intro hrd (And.intro hnl hsb))))))
            have HLN := Lib.hid (And.intro hln hkb)
            have hgs := World.block_lt_of_cell? W1 _ hc
            have hsm : IntKind.i64.wrap ((i : Int) + 1) = ((i + 1 : Nat) : Int) := IntWalk.i64_in _ (by omega)
            have HSM := Lib.hid hsm
            rw [hp] at c37
            have HOK := Lib.hid (And.intro hok1 (And.intro h4 (And.intro hlt hp)))
            have hgM1 : gs < M := hS
            clear ht hts hta hfb hl hrd hnl hsb hln hkb hsl hall hsm hil hS hp hoc hok1 h4 hlt
            obtain ⟨b', hb'⟩ : ∃ b', b' = shareB gr m := ⟨_, rfl⟩
            have HBB := Lib.hid hb'
            have HSH := Lib.hid (fun wx => rshare_c gr a m kc wx)
            rw [← hb'] at HSH
            clear hb'
            go_upto_region 7 with (go_at_call 38; refine (HSH.out _).mono ?_; rintro e W ⟨rfl, hb2⟩; have HB2 := Lib.hid hb2; clear hb2)
            have J2 := Lib.hid (J.out.below HB2.out)
            have HR1 := HR0
            clear HR0
            have HR0 := Lib.hid (HR1.out.below HB2.out)
            have hcc := cell_kept (Only.of_below (r := fun _ => False) HB2.out) (fun h => h) hc
            have hdd := cell_kept (Only.of_below (r := fun _ => False) HB2.out) (fun h => h) hd
            have c372 := J2.out.b.d37 hlen
            rw [HOK.out.2.2.2] at c372
            have hgM : gs < W.heap.size := Nat.lt_of_lt_of_le hgs HB2.out.size
            have hgs2 : ¬ w.heap.size < gs := by have := J.out.hM; omega
            have HS := Lib.hid (fun (u : World) (h : Only (fun k => owB p n c k) W u) => (show (u.cell? ⟨w.heap.size, 37, none⟩ = some (.slice (some ⟨gs, o, none⟩) z.n6 z.c6) ∧ u.cell? ⟨gs, o + i * 2, none⟩ = some (.int .i64 gr)) ∧ u.cell? ⟨gs, o + i * 2 + 1, none⟩ = some (.slice a m kc) from
              ⟨⟨cell_kept h (fun e => by have := HX.out.2.2 _ e; omega) c372, cell_kept h (fun e => hgs2 (HX.out.2.2 _ e)) hcc⟩, cell_kept h (fun e => hgs2 (HX.out.2.2 _ e)) hdd⟩))
            have HRD := Lib.hid (fun (u : World) (h : Only (fun k => owB p n c k) W u) => ((HT.out.2.2.2.2.1.below HB2.out).only h (fun k hk e => by have h1 := HX.out.2.2 _ e; have h2 := J.out.hM; omega) : Rd u (· < M) a ke))
            clear hcc hdd c372 c37 hc hd
            have hltW := J2.out.lt
            -- <<R7
            refine wp_region_tail (S := fun u => (u.cell? ⟨w.heap.size, 37, none⟩ = some (.slice (some ⟨gs, o, none⟩) z.n6 z.c6) ∧ u.cell? ⟨gs, o + i * 2, none⟩ = some (.int .i64 gr)) ∧ u.cell? ⟨gs, o + i * 2 + 1, none⟩ = some (.slice a m kc)) (n := 17) (by kernel_rfl) (by decide) ?_
            try simp only [List.drop_succ_cons, List.drop_zero]
            obtain ⟨u0, hu0⟩ : ∃ u, u = W.drew := ⟨_, rfl⟩
            have hba : Below W.heap.size W u0 := by rw [hu0]; exact (Below.refl _ _).drew
            rw [← hu0]
            clear hu0
            have R := HR0.out.below hba
            have X : ∀ k, owB p n c k → owB p n c k ∨ W.heap.size ≤ k := fun k hk => .inl hk
            have HB : Only (fun k => owB p n c k) W u0 := Only.of_below hba
            clear hba
            refine wpAnyT_take (i := 0) (oi := _) (v := .slice p n c) rfl (by kernel_rfl) (fun _ _ _ h => h) (by rfl) (by intro wq hSw; go_split_ands; go_simp <;> exact IntKind.wrap_u8 _) (HS.out _ HB) ?_
            try simp only [Act.put, List.setIfInBounds_toArray, List.set_cons_zero, List.set_cons_succ]
            refine wpAnyT_take (i := 1) (oi := _) (v := .pointer (some ⟨w.heap.size, 37, none⟩)) rfl (by kernel_rfl) (fun _ _ _ h => h) (by rfl) (by intro wq hSw; go_split_ands; go_simp <;> exact IntKind.wrap_u8 _) (HS.out _ HB) ?_
            try simp only [Act.put, List.setIfInBounds_toArray, List.set_cons_zero, List.set_cons_succ]
            refine wpAnyT_take (i := 2) (oi := _) (v := .slice (some ⟨gs, o, none⟩) z.n6 z.c6) rfl (by kernel_rfl) (fun _ _ _ h => h) (by rfl) (by intro wq hSw; go_split_ands; go_simp <;> exact IntKind.wrap_u8 _) (HS.out _ HB) ?_
            try simp only [Act.put, List.setIfInBounds_toArray, List.set_cons_zero, List.set_cons_succ]
            refine wpAnyT_take (i := 3) (oi := _) (v := .int .i64 (i : Int)) rfl (by kernel_rfl) (fun _ _ _ h => h) (by rfl) (by intro wq hSw; go_split_ands; go_simp <;> exact IntKind.wrap_u8 _) (HS.out _ HB) ?_
            try simp only [Act.put, List.setIfInBounds_toArray, List.set_cons_zero, List.set_cons_succ]
            refine wpAnyT_take (i := 4) (oi := _) (v := .pointer (some ⟨gs, o + i * 2, none⟩)) rfl (by kernel_rfl) (fun _ _ _ h => h) (by rfl) (by intro wq hSw; go_split_ands; go_simp <;> exact IntKind.wrap_u8 _) (HS.out _ HB) ?_
            try simp only [Act.put, List.setIfInBounds_toArray, List.set_cons_zero, List.set_cons_succ]
            refine wpAnyT_take (i := 5) (oi := _) (v := .pointer (some ⟨gs, o + i * 2, none⟩)) rfl (by kernel_rfl) (fun _ _ _ h => h) (by rfl) (by intro wq hSw; go_split_ands; go_simp <;> exact IntKind.wrap_u8 _) (HS.out _ HB) ?_
            try simp only [Act.put, List.setIfInBounds_toArray, List.set_cons_zero, List.set_cons_succ]
            refine wpAnyT_take (i := 6) (oi := _) (v := .int .i64 gr) rfl (by kernel_rfl) (fun _ _ _ h => h) (by rfl) (by intro wq hSw; go_split_ands; go_simp <;> exact IntKind.wrap_u8 _) (HS.out _ HB) ?_
            try simp only [Act.put, List.setIfInBounds_toArray, List.set_cons_zero, List.set_cons_succ]
            refine wpAnyT_take (i := 9) (oi := _) (v := .pointer (some ⟨w.heap.size, 37, none⟩)) rfl (by kernel_rfl) (fun _ _ _ h => h) (by rfl) (by intro wq hSw; go_split_ands; go_simp <;> exact IntKind.wrap_u8 _) (HS.out _ HB) ?_
            try simp only [Act.put, List.setIfInBounds_toArray, List.set_cons_zero, List.set_cons_succ]
            refine wpAnyT_take (i := 10) (oi := _) (v := .slice (some ⟨gs, o, none⟩) z.n6 z.c6) rfl (by kernel_rfl) (fun _ _ _ h => h) (by rfl) (by intro wq hSw; go_split_ands; go_simp <;> exact IntKind.wrap_u8 _) (HS.out _ HB) ?_
            try simp only [Act.put, List.setIfInBounds_toArray, List.set_cons_zero, List.set_cons_succ]
            refine wpAnyT_take (i := 11) (oi := _) (v := .int .i64 (i : Int)) rfl (by kernel_rfl) (fun _ _ _ h => h) (by rfl) (by intro wq hSw; go_split_ands; go_simp <;> exact IntKind.wrap_u8 _) (HS.out _ HB) ?_
            try simp only [Act.put, List.setIfInBounds_toArray, List.set_cons_zero, List.set_cons_succ]
            refine wpAnyT_take (i := 12) (oi := _) (v := .pointer (some ⟨gs, o + i * 2, none⟩)) rfl (by kernel_rfl) (fun _ _ _ h => h) (by rfl) (by intro wq hSw; go_split_ands; go_simp <;> exact IntKind.wrap_u8 _) (HS.out _ HB) ?_
            try simp only [Act.put, List.setIfInBounds_toArray, List.set_cons_zero, List.set_cons_succ]
            refine wpAnyT_take (i := 13) (oi := _) (v := .pointer (some ⟨gs, o + i * 2 + 1, none⟩)) rfl (by kernel_rfl) (fun _ _ _ h => h) (by rfl) (by intro wq hSw; go_split_ands; go_simp <;> exact IntKind.wrap_u8 _) (HS.out _ HB) ?_
            try simp only [Act.put, List.setIfInBounds_toArray, List.set_cons_zero, List.set_cons_succ]
            refine wpAnyT_take (i := 14) (oi := _) (v := .slice a m kc) rfl (by kernel_rfl) (fun _ _ _ h => h) (by rfl) (by intro wq hSw; go_split_ands; go_simp <;> exact IntKind.wrap_u8 _) (HS.out _ HB) ?_
            try simp only [Act.put, List.setIfInBounds_toArray, List.set_cons_zero, List.set_cons_succ]
            refine wpAnyT_ready (rs := [7]) (by kernel_rfl) (by simp) ?_
            refine AllReadyT.cons rfl (by decide) (fun K hK => ?_) ?_
            · go_simp
              go_wp2_with (go_at_call 40; refine (u16_c gr _).mono ?_; intro e u1 hp; obtain ⟨qq1, mm1, kk1, rfl, E, Ex, hb⟩ := hp.new)
              refine hK.out _ _ (HS.out _ (HB.then (Only.of_below hb))) ?_
              clear hK K
              try simp only [Act.put, List.setIfInBounds_toArray, List.set_cons_zero, List.set_cons_succ]
              replace HB := HB.then (Only.of_below hb)
              replace R := R.below hb
              have z1 := hb.size
              clear hb
              refine wpAnyT_ready (rs := [8]) (by kernel_rfl) (by simp) ?_
              refine AllReadyT.cons rfl (by decide) (fun K hK => ?_) ?_
              · refine step_app8 rfl (.tmp 92) (.tmp 99) rfl R (by simp [Act.eval, Act.put]) _ _ _ _ (u16L gr) (by simp [Act.eval, Act.put]) E.len E.rd E.nilc (by have := HLN.out; rw [u16L_len]; omega) ?_
                intro pp2 nn2 cc2 u2 R' X' hO
                have hZ := HB.size
                have hB' := HB.trans hO (fun _ h => h) (fun k hk h => by rcases X k h with h | h; exact h; omega)
                refine hK.out _ _ (HS.out _ hB') ?_
                clear hK K
                try simp only [Act.put, List.setIfInBounds_toArray, List.set_cons_zero, List.set_cons_succ]
                replace X : ∀ k, owB pp2 nn2 cc2 k → owB p n c k ∨ W.heap.size ≤ k := fun k h => by rcases X' k h with h | h; exact X k h; exact .inr (by omega)
                replace R := R'
                replace HB := hB'
                clear hB' R' X' hO hZ E Ex
                refine wpAnyT_ready (rs := [15]) (by kernel_rfl) (by simp) ?_
                refine AllReadyT.cons rfl (by decide) (fun K hK => ?_) ?_
                · go_simp
                  go_wp2_with (go_at_call 41; refine (vec2_c (· < M) a m kc ke _ (HRD.out _ HB) HT.out.2.2.2.2.2.1 (by have := HLN.out.2; have := HT.out.2.2.2.1; omega) HT.out.2.2.2.1).mono ?_; intro e u3 hp; obtain ⟨qq3, mm3, kk3, rfl, E, Ex, hb⟩ := hp.new)
                  refine hK.out _ _ (HS.out _ (HB.then (Only.of_below hb))) ?_
                  clear hK K
                  try simp only [Act.put, List.setIfInBounds_toArray, List.set_cons_zero, List.set_cons_succ]
                  replace HB := HB.then (Only.of_below hb)
                  replace R := R.below hb
                  have z3 := hb.size
                  clear hb
                  refine wpAnyT_ready (rs := [16]) (by kernel_rfl) (by simp) ?_
                  refine AllReadyT.cons rfl (by decide) (fun K hK => ?_) ?_
                  · refine step_app8 rfl (.tmp 100) (.tmp 107) rfl R (by simp [Act.eval, Act.put]) _ _ _ _ (be m 2 ++ ke) (by simp [Act.eval, Act.put]) E.len E.rd E.nilc (by have h1 := HLN.out; have h2 := HT.out.2.2.2.1; rw [List.length_append, List.length_append, u16L_len, be_length]; omega) ?_
                    intro pp4 nn4 cc4 u4 R' X' hO
                    have hZ := HB.size
                    have hB' := HB.trans hO (fun _ h => h) (fun k hk h => by rcases X k h with h | h; exact h; omega)
                    refine hK.out _ _ (HS.out _ hB') ?_
                    clear hK K
                    try simp only [Act.put, List.setIfInBounds_toArray, List.set_cons_zero, List.set_cons_succ]
                    replace X : ∀ k, owB pp4 nn4 cc4 k → owB p n c k ∨ W.heap.size ≤ k := fun k h => by rcases X' k h with h | h; exact X k h; exact .inr (by omega)
                    replace R := R'
                    replace HB := hB'
                    clear hB' R' X' hO hZ E Ex
                    refine wpAnyT_tail (by kernel_rfl) ?_
                    have HZ := Lib.hid (And.intro R (And.intro X HB))
                    clear R X HB HS
                    have h4 := HOK.out.2.1
                    have hlt := HOK.out.2.2.1
                    go_wp2
                    go_roundw
                    case rel =>
                      refine ⟨i + 1, b', _, _, _, by go_num, rfl, rfl, by have := HOK.out.2.2.1; omega, ?_, ?_, by rw [HT.out.1]; exact HZ.out.1, fun k hk => ?_, ?_⟩
                      · rw [HT.out.2.1, HOK.out.1, HBB.out, HT.out.2.2.2.2.2.2]; rfl
                      · intro h; refine HT.out.2.2.1 ?_; rw [HT.out.2.2.2.2.2.2, ← HBB.out]; exact h
                      · rcases HZ.out.2.1 k hk with h | h
                        · exact HX.out.2.2 k h
                        · omega
                      · exact J2.out.only HZ.out.2.2 (fun k hk e => by have := HX.out.2.2 _ e; omega)
                    case measure => have := HOK.out.2.2.1; simp [intOf]; omega
                  exact AllReadyT.nil
                exact AllReadyT.nil
              exact AllReadyT.nil
            exact AllReadyT.nil
            -- R7>>
        · obtain rfl : i = z.n6 := by omega
          have hb2 : b = ok2 := by
            have h1 := HX.out.1
            have h2 : s.shs.take z.n6 = s.shs := by rw [← J.out.i.s6.1]; exact List.take_length
            rw [h2] at h1
            rw [h1, HK2.out, HK1.out]
            rfl
          subst hb2
          have hr : rshL (s.shs.take z.n6) = rshL s.shs := by rw [← J.out.i.s6.1, List.take_length]
          have HRE := Lib.hid hr
          clear hr hlt
          go_wp2
          go_meet
          exact ⟨p, n, c, _, rfl, rfl, HR0.out, HX.out.2.2, (fun _ => HRE.out), J.out⟩
      -- L1>>
    case rest =>
      obtain ⟨p, n, c, X, rfl, rfl, hO, hx, hX, hK⟩ := hcut
      have HRS := Lib.hid hO
      have HXS := Lib.hid (And.intro hx hX)
      have J3 := Lib.hid hK
      have hlc := hK.lt
      have hst := hO.lt
      have HST := Lib.hid hst
      clear hO hx hX hK hst J0 I0
      obtain ⟨rok, hrok⟩ : ∃ b, b = rokC s := ⟨_, rfl⟩
      have HK3 := Lib.hid hrok
      clear hrok
      -- B>>
      -- <<C
      go_upto_block 2 with (fail)
      go_cut [4, 6, 7, 9, 10] from 109 to 182 (fun v4 v6 v7 _ _ wx => ∃ (pa : Option Addr) (na ca : Nat) (Xa : List UInt8) (pb : Option Addr) (nb cb : Nat) (Xb : List UInt8), v4 = .bool rok ∧ v6 = .slice pa na ca ∧ v7 = .slice pb nb cb ∧ OB wx pa na ca Xa ∧ OB wx pb nb cb Xb ∧ OB wx p n c X ∧ (∀ k, owB pa na ca k → w.heap.size < k) ∧ (∀ k, owB pb nb cb k → w.heap.size < k) ∧ (rok = true → Xa = ridL s.ids ∧ Xb = rbdL s.bnd) ∧ RK w M s z wx)
      case first =>
        -- <<L2
        go_wp2_with fail
        go_loopw [4, 6, 7, 9, 10] (fun v4 v6 v7 v9 _ wr => ∃ (i : Nat) (b : Bool) (pa : Option Addr) (na ca : Nat) (pb : Option Addr) (nb cb : Nat), v9 = .int .i64 (i : Int) ∧ v4 = .bool b ∧ v6 = .slice pa na ca ∧ v7 = .slice pb nb cb ∧ i ≤ z.n9 ∧ b = (ok2 && ((s.ids.zip s.bnd).take i).all pB) ∧ (b = false → rok = false) ∧ OB wr pa na ca (ridL (s.ids.take i)) ∧ OB wr pb nb cb (rbdL (s.bnd.take i)) ∧ OB wr p n c X ∧ (∀ k, owB pa na ca k → wc.heap.size ≤ k) ∧ (∀ k, owB pb nb cb k → wc.heap.size ≤ k) ∧ (∀ k, owB pa na ca k → owB pb nb cb k → False) ∧ RK w M s z wr ∧ wc.heap.size ≤ wr.heap.size) (fun _ _ _ v9 _ _ => z.n9 - (intOf v9).toNat)
        case atStart =>
          refine ⟨0, ok2, none, 0, 0, none, 0, 0, rfl, rfl, rfl, rfl, Nat.zero_le _, ?_, ?_, OB.nil _, OB.nil _, HRS.out, (fun k h => by cases h), (fun k h => by cases h), (fun k h => by cases h), J3.out, Nat.le_refl _⟩
          · simp
          · intro h
            rw [HK3.out]
            unfold rokC
            rw [← HK2.out, h]
            rfl
        case round =>
          obtain ⟨W1, hW⟩ : ∃ W1 : World, W1 = wr := ⟨_, rfl⟩
          rw [← hW] at hrel ⊢
          clear hW
          obtain ⟨i, b, pa, na, ca, pb, nb, cb, rfl, rfl, rfl, rfl, hi, hb, hbf, hOa, hOb, hOs, hxa, hxb, hne, hK, hcz⟩ := hrel
          have HOO := Lib.hid (And.intro hOa (And.intro hOb hOs))
          have HX := Lib.hid (And.intro hb (And.intro hbf (And.intro hxa (And.intro hxb hne))))
          have J := Lib.hid hK
          have c40 := hK.b.d40 hlen
          have c41 := hK.b.d41 hlen
          clear hOa hOb hOs hb hbf hxa hxb hne hK
          by_cases hlt : i < z.n9
          · have hld : (i : Int) < (z.n9 : Int) := by omega
            have hi0 : (0 : Int) ≤ (i : Int) := by omega
            cases b
            · have hfin := HX.out.2.1 rfl
              subst hfin
              go_wp2
              go_meet
              exact ⟨pa, na, ca, _, pb, nb, cb, _, rfl, rfl, rfl, HOO.out.1, HOO.out.2.1, HOO.out.2.2, (fun k h => Nat.lt_of_lt_of_le hlc (HX.out.2.2.1 k h)), (fun k h => Nat.lt_of_lt_of_le hlc (HX.out.2.2.2.1 k h)), (fun h => by cases h), J.out⟩
            · have hok : ok2 = true := by
                have h := HX.out.1
                cases ok2
                · simp at h
                · rfl
              have hall : ((s.ids.zip s.bnd).take i).all pB = true := by have h := HX.out.1; rw [hok] at h; simpa using h
              have hoc := (ok2C_of (HK2.out.symm.trans hok)).1
              have hsl : s.ids.length = z.n9 := J.out.i.s9.1
              have hsb : s.bnd.length = z.n10 := J.out.i.s10.1
              have h4 : z.n9 ≤ 4 := by rw [← hsl]; exact hoc.o10
              have h910 : z.n9 = z.n10 := by rw [← hsl, ← hsb]; exact hoc.o11
              have hil : i < s.ids.length := by omega
              have hib : i < s.bnd.length := by omega
              have hiz : i < (s.ids.zip s.bnd).length := by rw [List.length_zip]; omega
              have hza := zip_all (ids := s.ids.take i) (bnd := s.bnd.take i) (by rw [List.length_take, List.length_take]; omega) (by rw [take_zip'] at hall; exact hall)
              have hla : (ridL (s.ids.take i)).length ≤ 1044 := by
                have h1 := ridL_le hza.1
                rw [List.length_take] at h1
                omega
              have hlb : (rbdL (s.bnd.take i)).length ≤ 132 := by
                have h1 := rbdL_le hza.2
                rw [List.length_take] at h1
                omega
              obtain ⟨gs, o, a, m, kc, hp9, hS, hc, hd, hl, hrd, hnl⟩ := J.out.i.s9.2.1 i hil
              obtain ⟨gt, o2, a2, m2, kc2, hp10, hS2, hc2, hl2, hrd2, hnl2⟩ := J.out.i.s10.2.1 i hib
              have hts : ridL (s.ids.take (i + 1)) = (ridL (s.ids.take i) ++ (be (s.ids[i]'hil).1.length 2 ++ (s.ids[i]'hil).1)) ++ ageL (s.ids[i]'hil).2 := by
                rw [List.take_succ_eq_append_getElem hil, ridL_snoc, List.append_assoc]; rfl
              have htb : rbdL (s.bnd.take (i + 1)) = rbdL (s.bnd.take i) ++ (be (s.bnd[i]'hib).length 1 ++ s.bnd[i]'hib) := by
                rw [List.take_succ_eq_append_getElem hib, rbdL_snoc]; rfl
              have hta : ((s.ids.zip s.bnd).take (i + 1)).all pB = pB (s.ids[i]'hil, s.bnd[i]'hib) := by
                rw [List.take_succ_eq_append_getElem hiz, List.all_append, hall]; simp
              have hfb : pB (s.ids[i]'hil, s.bnd[i]'hib) = false → rok = false := by
                intro h
                rw [HK3.out]
                unfold rokC
                rw [Bool.and_eq_false_iff]
                right
                rw [List.all_eq_false]
                exact ⟨(s.ids.zip s.bnd)[i]'hiz, List.getElem_mem hiz, by rw [List.getElem_zip, h]; simp⟩
              have hkb := HF.out.f6 _ (List.getElem_mem hil)
              have hkb2 := HF.out.f7 _ (List.getElem_mem hib)
              obtain ⟨t, ht⟩ : ∃ t, t = s.ids[i]'hil := ⟨_, rfl⟩
              obtain ⟨bd, hbd⟩ : ∃ bd, bd = s.bnd[i]'hib := ⟨_, rfl⟩
              rw [← ht] at hd hl hrd hts hta hfb hkb
              rw [← hbd] at hl2 hrd2 htb hta hfb hkb2
              obtain ⟨ti, ag⟩ := t
              simp only at hd hl hrd hts hta hfb hkb
              rw [hl] at hts hkb
              rw [hl2] at htb hkb2
              have hpb : pB ((ti, ag), bd) = ((((decide (1 ≤ m) && decide (m ≤ 255)) && decide (0 ≤ ag)) && decide (ag < 4294967296)) && decide (m2 = 32)) := by unfold pB idB; simp only [hl, hl2]
              have HT := Lib.hid (And.intro hts (And.intro htb (And.intro hta (And.intro hfb hpb))))
              have HT1 := Lib.hid (And.intro hl (And.intro hrd hnl))
              have HT2 := Lib.hid (And.intro hl2 (And.intro hrd2 hnl2))
              have HLN := Lib.hid (And.intro hla (And.intro hlb (And.intro hkb hkb2)))
              have HOK := Lib.hid (And.intro hok (And.intro h4 (And.intro hlt (And.intro hp9 hp10))))
              have hgs := World.block_lt_of_cell? W1 _ hc
              have hgt := World.block_lt_of_cell? W1 _ hc2
              have hgM : gs < M := hS
              have hgM2 : gt < M := hS2
              have hi2 : (i : Int) < (z.n10 : Int) := by omega
              rw [hp9] at c40
              rw [hp10] at c41
              have HC := Lib.hid (And.intro hc (And.intro hd hc2))
              clear hts htb hta hfb hpb hl hrd hnl hl2 hrd2 hnl2 hla hlb hkb hkb2 hok h4 hlt hp9 hp10 hS hS2 hall hoc hsl hsb h910 hil hib hiz hza ht hbd hc2
              go_upto_region 12 with (refine st_blk rfl 51 (.tmp 10) (.tmp 123) rfl W1.heap.size #[.slice a m kc, .int .i64 ag] rfl rfl 51 #[.slice none 0 0, .int .i64 0] (Blk.new _ _ _) (by kernel_rfl) rfl (by simp [Value.oneCell']) ?_; intro W2 hb3 ho3; have H3 := Lib.hid (And.intro hb3 ho3); clear hb3 ho3)
              have hbx : Below W1.heap.size W1 W2 := below_only ((Below.refl _ _).alloc (Nat.le_refl _) _) (by rw [World.size_alloc]; omega) H3.out.2 (fun k hk e => by omega)
              obtain ⟨bx, hbx0⟩ : ∃ bx, bx = W1.heap.size := ⟨_, rfl⟩
              have hW2 : bx < W2.heap.size := by rw [hbx0]; exact H3.out.1.lt
              have hlx : W1.heap.size ≤ bx := by omega
              have H4 := Lib.hid (show Blk W2 bx 51 #[.slice a m kc, .int .i64 ag] from by rw [hbx0]; exact H3.out.1)
              have HBX := Lib.hid hbx
              rw [← hbx0]
              have J2 := Lib.hid (J.out.below hbx)
              have e0 : W2.cell? ⟨bx, 0, none⟩ = some (.slice a m kc) := H4.out.c 0
              have e1 : W2.cell? ⟨bx, 1, none⟩ = some (.int .i64 ag) := H4.out.c 1
              have e2 := cell_kept (Only.of_below (r := fun _ => False) hbx) (fun h => h) HC.out.2.2
              have c412 := J2.out.b.d41 hlen
              rw [HOK.out.2.2.2.2] at c412
              have hbs := hbx.size
              clear H3 hbx0 hbx hc hd c40 c41
              obtain ⟨b', hb'⟩ : ∃ b', b' = ((((decide (1 ≤ m) && decide (m ≤ 255)) && decide (0 ≤ ag)) && decide (ag < 4294967296)) && decide (m2 = 32)) := ⟨_, rfl⟩
              have HBB := Lib.hid hb'
              simp only [Act.put]
              go_cut [4] from 124 to 152 (fun v4 wx => v4 = .bool b' ∧ W2 = wx)
              case first =>
                obtain ⟨q0, hq0⟩ : ∃ b, b = decide (1 ≤ m) := ⟨_, rfl⟩
                obtain ⟨q1, hq1⟩ : ∃ b, b = decide (m ≤ 255) := ⟨_, rfl⟩
                obtain ⟨q2, hq2⟩ : ∃ b, b = decide (0 ≤ ag) := ⟨_, rfl⟩
                obtain ⟨q3, hq3⟩ : ∃ b, b = decide (ag < 4294967296) := ⟨_, rfl⟩
                obtain ⟨q4, hq4⟩ : ∃ b, b = decide (m2 = 32) := ⟨_, rfl⟩
                rw [← hq0, ← hq1, ← hq2, ← hq3, ← hq4] at hb'
                have d0 : decide ((1 : Int) ≤ (m : Int)) = q0 := by rw [hq0]; simp; omega
                have d1 : decide ((m : Int) ≤ 255) = q1 := by rw [hq1]; simp; omega
                have d2 := hq2.symm
                have d3 := hq3.symm
                have d4 : ((m2 : Int) == 32) = q4 := by rw [hq4, Bool.eq_iff_iff]; simp; omega
                have HB5 := Lib.hid hb'
                clear hb' hq0 hq1 hq2 hq3 hq4
                cases q0
                · go_wp2
                  go_meet
                  exact ⟨congrArg Value.bool (by rw [HB5.out]; rfl), rfl⟩
                · skip
                  cases q1
                  · go_wp2
                    go_meet
                    exact ⟨congrArg Value.bool (by rw [HB5.out]; rfl), rfl⟩
                  · skip
                    cases q2
                    · go_wp2
                      go_meet
                      exact ⟨congrArg Value.bool (by rw [HB5.out]; rfl), rfl⟩
                    · skip
                      cases q3
                      · go_wp2
                        go_meet
                        exact ⟨congrArg Value.bool (by rw [HB5.out]; rfl), rfl⟩
                      · skip
                        cases q4
                        · go_wp2
                          go_meet
                          exact ⟨congrArg Value.bool (by rw [HB5.out]; rfl), rfl⟩
                        · go_wp2
                          go_meet
                          exact ⟨congrArg Value.bool (by rw [HB5.out]; rfl), rfl⟩
              case rest =>
                obtain ⟨rfl, rfl⟩ := hcut
                clear hb'
                obtain ⟨W, hW⟩ : ∃ W : World, W = W2 := ⟨_, rfl⟩
                rw [← hW] at e0 e1 e2 c412 HBX J2 H4 hW2 hbs ⊢
                clear hW
                have HR0 := Lib.hid (HOO.out.1.below HBX.out)
                have hla0 := HOO.out.1.lt
                have hlb0 := HOO.out.2.1.lt
                have HLT := Lib.hid (And.intro hla0 (And.intro hlb0 HOO.out.2.2.lt))
                clear hla0 hlb0
                have HS := Lib.hid (fun (u : World) (h : Only (fun k => owB pa na ca k) W u) => (show u.cell? ⟨bx, 0, none⟩ = some (.slice a m kc) ∧ u.cell? ⟨bx, 1, none⟩ = some (.int .i64 ag) from
                  ⟨cell_kept h (fun e => by have := HLT.out.1 _ e; omega) e0, cell_kept h (fun e => by have := HLT.out.1 _ e; omega) e1⟩))
                have HRD := Lib.hid (fun (u : World) (h : Only (fun k => owB pa na ca k) W u) => ((HT1.out.2.1.below HBX.out).only h (fun k hk e => by have h1 := HX.out.2.2.1 _ e; have h2 := J.out.hM; omega) : Rd u (· < M) a ti))
                have HE2 := Lib.hid (And.intro e2 c412)
                clear e0 e1 e2 c412
                have hM1 := J.out.hM
                go_upto_region 13 with (fail)
                -- <<R13
                refine wp_region_tail (S := fun u => u.cell? ⟨bx, 0, none⟩ = some (.slice a m kc) ∧ u.cell? ⟨bx, 1, none⟩ = some (.int .i64 ag)) (n := 22) (by kernel_rfl) (by decide) ?_
                try simp only [List.drop_succ_cons, List.drop_zero]
                obtain ⟨u0, hu0⟩ : ∃ u, u = W.drew := ⟨_, rfl⟩
                have hba : Below W.heap.size W u0 := by rw [hu0]; exact (Below.refl _ _).drew
                rw [← hu0]
                clear hu0
                have R := HR0.out.below hba
                have X : ∀ k, owB pa na ca k → owB pa na ca k ∨ W.heap.size ≤ k := fun k hk => .inl hk
                have HB : Only (fun k => owB pa na ca k) W u0 := Only.of_below hba
                clear hba
                refine wpAnyT_take (i := 0) (oi := _) (v := .slice pa na ca) rfl (by kernel_rfl) (fun _ _ _ h => h) (by rfl) (by intro wq hSw; go_split_ands; go_simp <;> exact IntKind.wrap_u8 _) (HS.out _ HB) ?_
                try simp only [Act.put, List.setIfInBounds_toArray, List.set_cons_zero, List.set_cons_succ]
                refine wpAnyT_take (i := 1) (oi := _) (v := .pointer (some ⟨bx, 0, none⟩)) rfl (by kernel_rfl) (fun _ _ _ h => h) (by rfl) (by intro wq hSw; go_split_ands; go_simp <;> exact IntKind.wrap_u8 _) (HS.out _ HB) ?_
                try simp only [Act.put, List.setIfInBounds_toArray, List.set_cons_zero, List.set_cons_succ]
                refine wpAnyT_take (i := 2) (oi := _) (v := .slice a m kc) rfl (by kernel_rfl) (fun _ _ _ h => h) (by rfl) (by intro wq hSw; go_split_ands; go_simp <;> exact IntKind.wrap_u8 _) (HS.out _ HB) ?_
                try simp only [Act.put, List.setIfInBounds_toArray, List.set_cons_zero, List.set_cons_succ]
                refine wpAnyT_take (i := 5) (oi := _) (v := .pointer (some ⟨bx, 1, none⟩)) rfl (by kernel_rfl) (fun _ _ _ h => h) (by rfl) (by intro wq hSw; go_split_ands; go_simp <;> exact IntKind.wrap_u8 _) (HS.out _ HB) ?_
                try simp only [Act.put, List.setIfInBounds_toArray, List.set_cons_zero, List.set_cons_succ]
                refine wpAnyT_take (i := 6) (oi := _) (v := .int .i64 ag) rfl (by kernel_rfl) (fun _ _ _ h => h) (by rfl) (by intro wq hSw; go_split_ands; go_simp <;> exact IntKind.wrap_u8 _) (HS.out _ HB) ?_
                try simp only [Act.put, List.setIfInBounds_toArray, List.set_cons_zero, List.set_cons_succ]
                refine wpAnyT_take (i := 7) (oi := _) (v := .int .i64 (ag / 16777216)) rfl (by kernel_rfl) (fun _ _ _ h => h) (by rfl) (by intro wq hSw; go_split_ands; go_simp <;> exact IntKind.wrap_u8 _) (HS.out _ HB) ?_
                try simp only [Act.put, List.setIfInBounds_toArray, List.set_cons_zero, List.set_cons_succ]
                refine wpAnyT_take (i := 8) (oi := _) (v := .int .u8 (ag / 16777216 % 256)) rfl (by kernel_rfl) (fun _ _ _ h => h) (by rfl) (by intro wq hSw; go_split_ands; go_simp <;> exact IntKind.wrap_u8 _) (HS.out _ HB) ?_
                try simp only [Act.put, List.setIfInBounds_toArray, List.set_cons_zero, List.set_cons_succ]
                refine wpAnyT_take (i := 9) (oi := _) (v := .pointer (some ⟨bx, 1, none⟩)) rfl (by kernel_rfl) (fun _ _ _ h => h) (by rfl) (by intro wq hSw; go_split_ands; go_simp <;> exact IntKind.wrap_u8 _) (HS.out _ HB) ?_
                try simp only [Act.put, List.setIfInBounds_toArray, List.set_cons_zero, List.set_cons_succ]
                refine wpAnyT_take (i := 10) (oi := _) (v := .int .i64 ag) rfl (by kernel_rfl) (fun _ _ _ h => h) (by rfl) (by intro wq hSw; go_split_ands; go_simp <;> exact IntKind.wrap_u8 _) (HS.out _ HB) ?_
                try simp only [Act.put, List.setIfInBounds_toArray, List.set_cons_zero, List.set_cons_succ]
                refine wpAnyT_take (i := 11) (oi := _) (v := .int .i64 (ag / 65536)) rfl (by kernel_rfl) (fun _ _ _ h => h) (by rfl) (by intro wq hSw; go_split_ands; go_simp <;> exact IntKind.wrap_u8 _) (HS.out _ HB) ?_
                try simp only [Act.put, List.setIfInBounds_toArray, List.set_cons_zero, List.set_cons_succ]
                refine wpAnyT_take (i := 12) (oi := _) (v := .int .u8 (ag / 65536 % 256)) rfl (by kernel_rfl) (fun _ _ _ h => h) (by rfl) (by intro wq hSw; go_split_ands; go_simp <;> exact IntKind.wrap_u8 _) (HS.out _ HB) ?_
                try simp only [Act.put, List.setIfInBounds_toArray, List.set_cons_zero, List.set_cons_succ]
                refine wpAnyT_take (i := 13) (oi := _) (v := .pointer (some ⟨bx, 1, none⟩)) rfl (by kernel_rfl) (fun _ _ _ h => h) (by rfl) (by intro wq hSw; go_split_ands; go_simp <;> exact IntKind.wrap_u8 _) (HS.out _ HB) ?_
                try simp only [Act.put, List.setIfInBounds_toArray, List.set_cons_zero, List.set_cons_succ]
                refine wpAnyT_take (i := 14) (oi := _) (v := .int .i64 ag) rfl (by kernel_rfl) (fun _ _ _ h => h) (by rfl) (by intro wq hSw; go_split_ands; go_simp <;> exact IntKind.wrap_u8 _) (HS.out _ HB) ?_
                try simp only [Act.put, List.setIfInBounds_toArray, List.set_cons_zero, List.set_cons_succ]
                refine wpAnyT_take (i := 15) (oi := _) (v := .int .i64 (ag / 256)) rfl (by kernel_rfl) (fun _ _ _ h => h) (by rfl) (by intro wq hSw; go_split_ands; go_simp <;> exact IntKind.wrap_u8 _) (HS.out _ HB) ?_
                try simp only [Act.put, List.setIfInBounds_toArray, List.set_cons_zero, List.set_cons_succ]
                refine wpAnyT_take (i := 16) (oi := _) (v := .int .u8 (ag / 256 % 256)) rfl (by kernel_rfl) (fun _ _ _ h => h) (by rfl) (by intro wq hSw; go_split_ands; go_simp <;> exact IntKind.wrap_u8 _) (HS.out _ HB) ?_
                try simp only [Act.put, List.setIfInBounds_toArray, List.set_cons_zero, List.set_cons_succ]
                refine wpAnyT_take (i := 17) (oi := _) (v := .pointer (some ⟨bx, 1, none⟩)) rfl (by kernel_rfl) (fun _ _ _ h => h) (by rfl) (by intro wq hSw; go_split_ands; go_simp <;> exact IntKind.wrap_u8 _) (HS.out _ HB) ?_
                try simp only [Act.put, List.setIfInBounds_toArray, List.set_cons_zero, List.set_cons_succ]
                refine wpAnyT_take (i := 18) (oi := _) (v := .int .i64 ag) rfl (by kernel_rfl) (fun _ _ _ h => h) (by rfl) (by intro wq hSw; go_split_ands; go_simp <;> exact IntKind.wrap_u8 _) (HS.out _ HB) ?_
                try simp only [Act.put, List.setIfInBounds_toArray, List.set_cons_zero, List.set_cons_succ]
                refine wpAnyT_take (i := 19) (oi := _) (v := .int .u8 (ag % 256)) rfl (by kernel_rfl) (fun _ _ _ h => h) (by rfl) (by intro wq hSw; go_split_ands; go_simp <;> exact IntKind.wrap_u8 _) (HS.out _ HB) ?_
                try simp only [Act.put, List.setIfInBounds_toArray, List.set_cons_zero, List.set_cons_succ]
                refine wpAnyT_ready (rs := [3, 20]) (by kernel_rfl) (by simp) ?_
                refine AllReadyT.cons rfl (by decide) (fun K hK => ?_) ?_
                · go_simp
                  go_wp2_with (go_at_call 41; refine (vec2_c (· < M) a m kc ti _ (HRD.out _ HB) HT1.out.2.2 (by have := HLN.out.2.2.1; have := HT1.out.1; omega) HT1.out.1).mono ?_; intro e u1 hp; obtain ⟨qq1, mm1, kk1, rfl, E, Ex, hb⟩ := hp.new)
                  refine hK.out _ _ (HS.out _ (HB.then (Only.of_below hb))) ?_
                  clear hK K
                  try simp only [Act.put, List.setIfInBounds_toArray, List.set_cons_zero, List.set_cons_succ]
                  replace HB := HB.then (Only.of_below hb)
                  replace R := R.below hb
                  have z1 := hb.size
                  clear hb
                  refine wpAnyT_ready (rs := [4, 20]) (by kernel_rfl) (by simp) ?_
                  refine AllReadyT.cons rfl (by decide) (fun K hK => ?_) ?_
                  · refine step_app8 rfl (.tmp 153) (.tmp 156) rfl R (by simp [Act.eval, Act.put]) _ _ _ _ (be m 2 ++ ti) (by simp [Act.eval, Act.put]) E.len E.rd E.nilc (by have h1 := HLN.out; have h2 := HT1.out.1; rw [List.length_append, be_length]; omega) ?_
                    intro pp2 nn2 cc2 u2 R' X' hO
                    have hZ := HB.size
                    have hB' := HB.trans hO (fun _ h => h) (fun k hk h => by rcases X k h with h | h; exact h; omega)
                    refine hK.out _ _ (HS.out _ hB') ?_
                    clear hK K
                    try simp only [Act.put, List.setIfInBounds_toArray, List.set_cons_zero, List.set_cons_succ]
                    replace X : ∀ k, owB pp2 nn2 cc2 k → owB pa na ca k ∨ W.heap.size ≤ k := fun k h => by rcases X' k h with h | h; exact X k h; exact .inr (by omega)
                    replace R := R'
                    replace HB := hB'
                    clear hB' R' X' hO hZ E Ex
                    refine wpAnyT_ready (rs := [20]) (by kernel_rfl) (by simp) ?_
                    refine AllReadyT.cons rfl (by decide) (fun K hK => ?_) ?_
                    · go_simp
                      refine hK.out _ _ (HS.out _ (HB.then (Only.of_below ((Below.refl _ _).alloc (Nat.le_refl _) _)))) ?_
                      clear hK K
                      try simp only [Act.put, List.setIfInBounds_toArray, List.set_cons_zero, List.set_cons_succ]
                      refine wpAnyT_alloc ?_
                      intro u3 hb V
                      have lV : W.heap.size ≤ u2.heap.size := HB.size
                      have nV : ∀ k, owB _ _ _ k → k ≠ u2.heap.size := fun k h => by have := R.lt k h; omega
                      have z3 := hb.size
                      replace R := R.below hb
                      replace HB := HB.then (Only.of_below hb)
                      clear hb
                      generalize u2.heap.size = bV at *
                      refine wpAnyT_ready (rs := [21]) (by kernel_rfl) (by simp) ?_
                      refine AllReadyT.cons rfl (by decide) (fun K hK => ?_) ?_
                      · refine step_app8 rfl (.tmp 157) (.tmp 173) rfl R (by simp [Act.eval, Act.put]) (fun k => k = bV) (some ⟨bV, 0, none⟩) 4 4 (ageL ag) (by simp [Act.eval, Act.put]) rfl (blk_rd V (by simp [ageL, B8, b8_nat])) (fun h => by cases h) (by have h1 := HLN.out; have h2 := HT1.out.1; rw [List.length_append, List.length_append, be_length]; show _ + 4 ≤ _; omega) ?_
                        intro pp4 nn4 cc4 u4 R' X' hO
                        have hZ := HB.size
                        have hB' := HB.trans hO (fun _ h => h) (fun k hk h => by rcases X k h with h | h; exact h; omega)
                        refine hK.out _ _ (HS.out _ hB') ?_
                        clear hK K
                        try simp only [Act.put, List.setIfInBounds_toArray, List.set_cons_zero, List.set_cons_succ]
                        replace X : ∀ k, owB pp4 nn4 cc4 k → owB pa na ca k ∨ W.heap.size ≤ k := fun k h => by rcases X' k h with h | h; exact X k h; exact .inr (by omega)
                        replace R := R'
                        replace HB := hB'
                        clear hB' R' X' hO hZ V nV lV
                        refine wpAnyT_tail (by kernel_rfl) ?_
                        have HZ := Lib.hid (And.intro R (And.intro X HB))
                        have hXX : ∀ k, owB pa na ca k → w.heap.size < k := fun k e => Nat.lt_of_lt_of_le hlc (HX.out.2.2.1 _ e)
                        have J4 := Lib.hid (J2.out.only HZ.out.2.2 (fun k hk e => by have := hXX _ e; omega))
                        have OB4 := Lib.hid ((HOO.out.2.1.below HBX.out).only HZ.out.2.2 (fun k h1 h2 => HX.out.2.2.2.2 k h2 h1))
                        have OS4 := Lib.hid ((HOO.out.2.2.below HBX.out).only HZ.out.2.2 (fun k h1 h2 => by have h3 := HST.out k h1; have h4 := HX.out.2.2.1 k h2; omega))
                        have e4 := cell_kept HZ.out.2.2 (fun e => by have := hXX _ e; omega) HE2.out.1
                        have f4 := cell_kept HZ.out.2.2 (fun e => by have := hXX _ e; omega) HE2.out.2
                        have RD4 := Lib.hid ((HT2.out.2.1.below HBX.out).only HZ.out.2.2 (fun k hk e => by have := hXX _ e; have h2 : k < M := hk; omega))
                        have LA4 := Lib.hid R.lt
                        have hz4 := HB.size
                        clear R X HB HS
                        have h4 := HOK.out.2.1
                        have hlt := HOK.out.2.2.1
                        go_wp2_with (first
                          | (go_at_call 41; refine (vec1_c (· < M) a2 m2 kc2 bd _ RD4.out HT2.out.2.2 (by have := HLN.out.2.2.2; have := HT2.out.1; omega) HT2.out.1).mono ?_; intro e W5 hp; obtain ⟨q5, m5, k5, rfl, h1, h2, h3⟩ := hp.new; have H5 := Lib.hid (And.intro h1 (And.intro h2 h3)); have hz5 := h3.size; clear h1 h2 h3 hp)
                          | (at_builtin; refine wpList_app8 rfl _ _ rfl (OB4.out.below H5.out.2.2) rfl _ q5 m5 k5 (be m2 1 ++ bd) rfl H5.out.1.len H5.out.1.rd H5.out.1.nilc (by have h1 := HLN.out; have h2 := HT2.out.1; rw [List.length_append, be_length]; omega) ?_; intro p6 n6 c6 W6 h1 h2 h3; have H6 := Lib.hid (And.intro h1 (And.intro h2 h3)); have hz6 := h3.size; clear h1 h2 h3))
                        go_roundw
                        case rel =>
                          have hxb6 : ∀ k, owB p6 n6 c6 k → wc.heap.size ≤ k := fun k hk => by rcases H6.out.2.1 k hk with h | h; exact HX.out.2.2.2.1 k h; omega
                          refine ⟨i + 1, b', _, _, _, p6, n6, c6, by go_num, rfl, rfl, rfl, by omega, ?_, ?_, ?_, ?_, ?_, fun k hk => ?_, hxb6, fun k h1 h2 => ?_, ?_, by omega⟩
                          · rw [HT.out.2.2.1, HOK.out.1, HBB.out, HT.out.2.2.2.2]; rfl
                          · intro h; refine HT.out.2.2.2.1 ?_; rw [HT.out.2.2.2.2, ← HBB.out]; exact h
                          · rw [HT.out.1]; exact (HZ.out.1.below H5.out.2.2).only H6.out.2.2 (fun k h1 h2 => by rcases HZ.out.2.1 k h1 with h | h; exact HX.out.2.2.2.2 k h h2; have := HLT.out.2.1 k h2; omega)
                          · rw [HT.out.2.1]; exact H6.out.1
                          · exact (OS4.out.below H5.out.2.2).only H6.out.2.2 (fun k h1 h2 => by have h3 := HST.out k h1; have h4 := HX.out.2.2.2.1 k h2; omega)
                          · rcases HZ.out.2.1 k hk with h | h
                            · exact HX.out.2.2.1 k h
                            · omega
                          · have h3 := LA4.out k h1
                            rcases H6.out.2.1 k h2 with h | h
                            · rcases HZ.out.2.1 k h1 with h5 | h5
                              · exact HX.out.2.2.2.2 k h5 h
                              · have := HLT.out.2.1 k h; omega
                            · omega
                          · exact (J4.out.below H5.out.2.2).only H6.out.2.2 (fun k hk e => by have := HX.out.2.2.2.1 k e; omega)
                        case measure => simp [intOf]; omega
                      exact AllReadyT.nil
                    exact AllReadyT.nil
                  refine AllReadyT.cons rfl (by decide) (fun K hK => ?_) ?_
                  · go_simp
                    refine hK.out _ _ (HS.out _ (HB.then (Only.of_below ((Below.refl _ _).alloc (Nat.le_refl _) _)))) ?_
                    clear hK K
                    try simp only [Act.put, List.setIfInBounds_toArray, List.set_cons_zero, List.set_cons_succ]
                    refine wpAnyT_alloc ?_
                    intro u2 hb V
                    have lV : W.heap.size ≤ u1.heap.size := HB.size
                    have nV : ∀ k, owB _ _ _ k → k ≠ u1.heap.size := fun k h => by have := R.lt k h; omega
                    have z2 := hb.size
                    replace R := R.below hb
                    replace E := E.below hb
                    replace HB := HB.then (Only.of_below hb)
                    clear hb
                    generalize u1.heap.size = bV at *
                    refine wpAnyT_ready (rs := [4]) (by kernel_rfl) (by simp) ?_
                    refine AllReadyT.cons rfl (by decide) (fun K hK => ?_) ?_
                    · refine step_app8 rfl (.tmp 153) (.tmp 156) rfl R (by simp [Act.eval, Act.put]) _ _ _ _ (be m 2 ++ ti) (by simp [Act.eval, Act.put]) E.len E.rd E.nilc (by have h1 := HLN.out; have h2 := HT1.out.1; rw [List.length_append, be_length]; omega) ?_
                      intro pp3 nn3 cc3 u3 R' X' hO
                      have hZ := HB.size
                      have hB' := HB.trans hO (fun _ h => h) (fun k hk h => by rcases X k h with h | h; exact h; omega)
                      refine hK.out _ _ (HS.out _ hB') ?_
                      clear hK K
                      try simp only [Act.put, List.setIfInBounds_toArray, List.set_cons_zero, List.set_cons_succ]
                      have tV := V.lt
                      replace V := V.only hO (fun h => nV _ h rfl)
                      replace nV : ∀ k, owB pp3 nn3 cc3 k → k ≠ bV := fun k h => by rcases X' k h with h | h; exact nV k h; omega
                      replace X : ∀ k, owB pp3 nn3 cc3 k → owB pa na ca k ∨ W.heap.size ≤ k := fun k h => by rcases X' k h with h | h; exact X k h; exact .inr (by omega)
                      replace R := R'
                      replace HB := hB'
                      clear hB' R' X' hO hZ E Ex
                      refine wpAnyT_ready (rs := [21]) (by kernel_rfl) (by simp) ?_
                      refine AllReadyT.cons rfl (by decide) (fun K hK => ?_) ?_
                      · refine step_app8 rfl (.tmp 157) (.tmp 173) rfl R (by simp [Act.eval, Act.put]) (fun k => k = bV) (some ⟨bV, 0, none⟩) 4 4 (ageL ag) (by simp [Act.eval, Act.put]) rfl (blk_rd V (by simp [ageL, B8, b8_nat])) (fun h => by cases h) (by have h1 := HLN.out; have h2 := HT1.out.1; rw [List.length_append, List.length_append, be_length]; show _ + 4 ≤ _; omega) ?_
                        intro pp4 nn4 cc4 u4 R' X' hO
                        have hZ := HB.size
                        have hB' := HB.trans hO (fun _ h => h) (fun k hk h => by rcases X k h with h | h; exact h; omega)
                        refine hK.out _ _ (HS.out _ hB') ?_
                        clear hK K
                        try simp only [Act.put, List.setIfInBounds_toArray, List.set_cons_zero, List.set_cons_succ]
                        replace X : ∀ k, owB pp4 nn4 cc4 k → owB pa na ca k ∨ W.heap.size ≤ k := fun k h => by rcases X' k h with h | h; exact X k h; exact .inr (by omega)
                        replace R := R'
                        replace HB := hB'
                        clear hB' R' X' hO hZ V nV lV
                        refine wpAnyT_tail (by kernel_rfl) ?_
                        have HZ := Lib.hid (And.intro R (And.intro X HB))
                        have hXX : ∀ k, owB pa na ca k → w.heap.size < k := fun k e => Nat.lt_of_lt_of_le hlc (HX.out.2.2.1 _ e)
                        have J4 := Lib.hid (J2.out.only HZ.out.2.2 (fun k hk e => by have := hXX _ e; omega))
                        have OB4 := Lib.hid ((HOO.out.2.1.below HBX.out).only HZ.out.2.2 (fun k h1 h2 => HX.out.2.2.2.2 k h2 h1))
                        have OS4 := Lib.hid ((HOO.out.2.2.below HBX.out).only HZ.out.2.2 (fun k h1 h2 => by have h3 := HST.out k h1; have h4 := HX.out.2.2.1 k h2; omega))
                        have e4 := cell_kept HZ.out.2.2 (fun e => by have := hXX _ e; omega) HE2.out.1
                        have f4 := cell_kept HZ.out.2.2 (fun e => by have := hXX _ e; omega) HE2.out.2
                        have RD4 := Lib.hid ((HT2.out.2.1.below HBX.out).only HZ.out.2.2 (fun k hk e => by have := hXX _ e; have h2 : k < M := hk; omega))
                        have LA4 := Lib.hid R.lt
                        have hz4 := HB.size
                        clear R X HB HS
                        have h4 := HOK.out.2.1
                        have hlt := HOK.out.2.2.1
                        go_wp2_with (first
                          | (go_at_call 41; refine (vec1_c (· < M) a2 m2 kc2 bd _ RD4.out HT2.out.2.2 (by have := HLN.out.2.2.2; have := HT2.out.1; omega) HT2.out.1).mono ?_; intro e W5 hp; obtain ⟨q5, m5, k5, rfl, h1, h2, h3⟩ := hp.new; have H5 := Lib.hid (And.intro h1 (And.intro h2 h3)); have hz5 := h3.size; clear h1 h2 h3 hp)
                          | (at_builtin; refine wpList_app8 rfl _ _ rfl (OB4.out.below H5.out.2.2) rfl _ q5 m5 k5 (be m2 1 ++ bd) rfl H5.out.1.len H5.out.1.rd H5.out.1.nilc (by have h1 := HLN.out; have h2 := HT2.out.1; rw [List.length_append, be_length]; omega) ?_; intro p6 n6 c6 W6 h1 h2 h3; have H6 := Lib.hid (And.intro h1 (And.intro h2 h3)); have hz6 := h3.size; clear h1 h2 h3))
                        go_roundw
                        case rel =>
                          have hxb6 : ∀ k, owB p6 n6 c6 k → wc.heap.size ≤ k := fun k hk => by rcases H6.out.2.1 k hk with h | h; exact HX.out.2.2.2.1 k h; omega
                          refine ⟨i + 1, b', _, _, _, p6, n6, c6, by go_num, rfl, rfl, rfl, by omega, ?_, ?_, ?_, ?_, ?_, fun k hk => ?_, hxb6, fun k h1 h2 => ?_, ?_, by omega⟩
                          · rw [HT.out.2.2.1, HOK.out.1, HBB.out, HT.out.2.2.2.2]; rfl
                          · intro h; refine HT.out.2.2.2.1 ?_; rw [HT.out.2.2.2.2, ← HBB.out]; exact h
                          · rw [HT.out.1]; exact (HZ.out.1.below H5.out.2.2).only H6.out.2.2 (fun k h1 h2 => by rcases HZ.out.2.1 k h1 with h | h; exact HX.out.2.2.2.2 k h h2; have := HLT.out.2.1 k h2; omega)
                          · rw [HT.out.2.1]; exact H6.out.1
                          · exact (OS4.out.below H5.out.2.2).only H6.out.2.2 (fun k h1 h2 => by have h3 := HST.out k h1; have h4 := HX.out.2.2.2.1 k h2; omega)
                          · rcases HZ.out.2.1 k hk with h | h
                            · exact HX.out.2.2.1 k h
                            · omega
                          · have h3 := LA4.out k h1
                            rcases H6.out.2.1 k h2 with h | h
                            · rcases HZ.out.2.1 k h1 with h5 | h5
                              · exact HX.out.2.2.2.2 k h5 h
                              · have := HLT.out.2.1 k h; omega
                            · omega
                          · exact (J4.out.below H5.out.2.2).only H6.out.2.2 (fun k hk e => by have := HX.out.2.2.2.1 k e; omega)
                        case measure => simp [intOf]; omega
                      exact AllReadyT.nil
                    exact AllReadyT.nil
                  exact AllReadyT.nil
                refine AllReadyT.cons rfl (by decide) (fun K hK => ?_) ?_
                · go_simp
                  refine hK.out _ _ (HS.out _ (HB.then (Only.of_below ((Below.refl _ _).alloc (Nat.le_refl _) _)))) ?_
                  clear hK K
                  try simp only [Act.put, List.setIfInBounds_toArray, List.set_cons_zero, List.set_cons_succ]
                  refine wpAnyT_alloc ?_
                  intro u1 hb V
                  have lV : W.heap.size ≤ u0.heap.size := HB.size
                  have nV : ∀ k, owB _ _ _ k → k ≠ u0.heap.size := fun k h => by have := R.lt k h; omega
                  have z1 := hb.size
                  replace R := R.below hb
                  replace HB := HB.then (Only.of_below hb)
                  clear hb
                  generalize u0.heap.size = bV at *
                  refine wpAnyT_ready (rs := [3]) (by kernel_rfl) (by simp) ?_
                  refine AllReadyT.cons rfl (by decide) (fun K hK => ?_) ?_
                  · go_simp
                    go_wp2_with (go_at_call 41; refine (vec2_c (· < M) a m kc ti _ (HRD.out _ HB) HT1.out.2.2 (by have := HLN.out.2.2.1; have := HT1.out.1; omega) HT1.out.1).mono ?_; intro e u2 hp; obtain ⟨qq2, mm2, kk2, rfl, E, Ex, hb⟩ := hp.new)
                    refine hK.out _ _ (HS.out _ (HB.then (Only.of_below hb))) ?_
                    clear hK K
                    try simp only [Act.put, List.setIfInBounds_toArray, List.set_cons_zero, List.set_cons_succ]
                    replace HB := HB.then (Only.of_below hb)
                    replace R := R.below hb
                    replace V := V.below hb
                    have z2 := hb.size
                    clear hb
                    refine wpAnyT_ready (rs := [4]) (by kernel_rfl) (by simp) ?_
                    refine AllReadyT.cons rfl (by decide) (fun K hK => ?_) ?_
                    · refine step_app8 rfl (.tmp 153) (.tmp 156) rfl R (by simp [Act.eval, Act.put]) _ _ _ _ (be m 2 ++ ti) (by simp [Act.eval, Act.put]) E.len E.rd E.nilc (by have h1 := HLN.out; have h2 := HT1.out.1; rw [List.length_append, be_length]; omega) ?_
                      intro pp3 nn3 cc3 u3 R' X' hO
                      have hZ := HB.size
                      have hB' := HB.trans hO (fun _ h => h) (fun k hk h => by rcases X k h with h | h; exact h; omega)
                      refine hK.out _ _ (HS.out _ hB') ?_
                      clear hK K
                      try simp only [Act.put, List.setIfInBounds_toArray, List.set_cons_zero, List.set_cons_succ]
                      have tV := V.lt
                      replace V := V.only hO (fun h => nV _ h rfl)
                      replace nV : ∀ k, owB pp3 nn3 cc3 k → k ≠ bV := fun k h => by rcases X' k h with h | h; exact nV k h; omega
                      replace X : ∀ k, owB pp3 nn3 cc3 k → owB pa na ca k ∨ W.heap.size ≤ k := fun k h => by rcases X' k h with h | h; exact X k h; exact .inr (by omega)
                      replace R := R'
                      replace HB := hB'
                      clear hB' R' X' hO hZ E Ex
                      refine wpAnyT_ready (rs := [21]) (by kernel_rfl) (by simp) ?_
                      refine AllReadyT.cons rfl (by decide) (fun K hK => ?_) ?_
                      · refine step_app8 rfl (.tmp 157) (.tmp 173) rfl R (by simp [Act.eval, Act.put]) (fun k => k = bV) (some ⟨bV, 0, none⟩) 4 4 (ageL ag) (by simp [Act.eval, Act.put]) rfl (blk_rd V (by simp [ageL, B8, b8_nat])) (fun h => by cases h) (by have h1 := HLN.out; have h2 := HT1.out.1; rw [List.length_append, List.length_append, be_length]; show _ + 4 ≤ _; omega) ?_
                        intro pp4 nn4 cc4 u4 R' X' hO
                        have hZ := HB.size
                        have hB' := HB.trans hO (fun _ h => h) (fun k hk h => by rcases X k h with h | h; exact h; omega)
                        refine hK.out _ _ (HS.out _ hB') ?_
                        clear hK K
                        try simp only [Act.put, List.setIfInBounds_toArray, List.set_cons_zero, List.set_cons_succ]
                        replace X : ∀ k, owB pp4 nn4 cc4 k → owB pa na ca k ∨ W.heap.size ≤ k := fun k h => by rcases X' k h with h | h; exact X k h; exact .inr (by omega)
                        replace R := R'
                        replace HB := hB'
                        clear hB' R' X' hO hZ V nV lV
                        refine wpAnyT_tail (by kernel_rfl) ?_
                        have HZ := Lib.hid (And.intro R (And.intro X HB))
                        have hXX : ∀ k, owB pa na ca k → w.heap.size < k := fun k e => Nat.lt_of_lt_of_le hlc (HX.out.2.2.1 _ e)
                        have J4 := Lib.hid (J2.out.only HZ.out.2.2 (fun k hk e => by have := hXX _ e; omega))
                        have OB4 := Lib.hid ((HOO.out.2.1.below HBX.out).only HZ.out.2.2 (fun k h1 h2 => HX.out.2.2.2.2 k h2 h1))
                        have OS4 := Lib.hid ((HOO.out.2.2.below HBX.out).only HZ.out.2.2 (fun k h1 h2 => by have h3 := HST.out k h1; have h4 := HX.out.2.2.1 k h2; omega))
                        have e4 := cell_kept HZ.out.2.2 (fun e => by have := hXX _ e; omega) HE2.out.1
                        have f4 := cell_kept HZ.out.2.2 (fun e => by have := hXX _ e; omega) HE2.out.2
                        have RD4 := Lib.hid ((HT2.out.2.1.below HBX.out).only HZ.out.2.2 (fun k hk e => by have := hXX _ e; have h2 : k < M := hk; omega))
                        have LA4 := Lib.hid R.lt
                        have hz4 := HB.size
                        clear R X HB HS
                        have h4 := HOK.out.2.1
                        have hlt := HOK.out.2.2.1
                        go_wp2_with (first
                          | (go_at_call 41; refine (vec1_c (· < M) a2 m2 kc2 bd _ RD4.out HT2.out.2.2 (by have := HLN.out.2.2.2; have := HT2.out.1; omega) HT2.out.1).mono ?_; intro e W5 hp; obtain ⟨q5, m5, k5, rfl, h1, h2, h3⟩ := hp.new; have H5 := Lib.hid (And.intro h1 (And.intro h2 h3)); have hz5 := h3.size; clear h1 h2 h3 hp)
                          | (at_builtin; refine wpList_app8 rfl _ _ rfl (OB4.out.below H5.out.2.2) rfl _ q5 m5 k5 (be m2 1 ++ bd) rfl H5.out.1.len H5.out.1.rd H5.out.1.nilc (by have h1 := HLN.out; have h2 := HT2.out.1; rw [List.length_append, be_length]; omega) ?_; intro p6 n6 c6 W6 h1 h2 h3; have H6 := Lib.hid (And.intro h1 (And.intro h2 h3)); have hz6 := h3.size; clear h1 h2 h3))
                        go_roundw
                        case rel =>
                          have hxb6 : ∀ k, owB p6 n6 c6 k → wc.heap.size ≤ k := fun k hk => by rcases H6.out.2.1 k hk with h | h; exact HX.out.2.2.2.1 k h; omega
                          refine ⟨i + 1, b', _, _, _, p6, n6, c6, by go_num, rfl, rfl, rfl, by omega, ?_, ?_, ?_, ?_, ?_, fun k hk => ?_, hxb6, fun k h1 h2 => ?_, ?_, by omega⟩
                          · rw [HT.out.2.2.1, HOK.out.1, HBB.out, HT.out.2.2.2.2]; rfl
                          · intro h; refine HT.out.2.2.2.1 ?_; rw [HT.out.2.2.2.2, ← HBB.out]; exact h
                          · rw [HT.out.1]; exact (HZ.out.1.below H5.out.2.2).only H6.out.2.2 (fun k h1 h2 => by rcases HZ.out.2.1 k h1 with h | h; exact HX.out.2.2.2.2 k h h2; have := HLT.out.2.1 k h2; omega)
                          · rw [HT.out.2.1]; exact H6.out.1
                          · exact (OS4.out.below H5.out.2.2).only H6.out.2.2 (fun k h1 h2 => by have h3 := HST.out k h1; have h4 := HX.out.2.2.2.1 k h2; omega)
                          · rcases HZ.out.2.1 k hk with h | h
                            · exact HX.out.2.2.1 k h
                            · omega
                          · have h3 := LA4.out k h1
                            rcases H6.out.2.1 k h2 with h | h
                            · rcases HZ.out.2.1 k h1 with h5 | h5
                              · exact HX.out.2.2.2.2 k h5 h
                              · have := HLT.out.2.1 k h; omega
                            · omega
                          · exact (J4.out.below H5.out.2.2).only H6.out.2.2 (fun k hk e => by have := HX.out.2.2.2.1 k e; omega)
                        case measure => simp [intOf]; omega
                      exact AllReadyT.nil
                    exact AllReadyT.nil
                  exact AllReadyT.nil
                exact AllReadyT.nil
                -- R13>>
          · obtain rfl : i = z.n9 := by omega
            have hoc9 : ok2 = true → s.ids.length = s.bnd.length := fun h => (ok2C_of (HK2.out.symm.trans h)).1.o11
            have hb2 : b = rok := by
              have h1 := HX.out.1
              rw [h1, HK3.out]
              unfold rokC
              rw [← HK2.out]
              cases hk : ok2
              · rfl
              · have h2 : (s.ids.zip s.bnd).take z.n9 = s.ids.zip s.bnd := List.take_of_length_le (by rw [List.length_zip, ← J.out.i.s9.1]; omega)
                rw [h2]
            subst hb2
            have hra : b = true → ridL (s.ids.take z.n9) = ridL s.ids ∧ rbdL (s.bnd.take z.n9) = rbdL s.bnd := by
              intro h
              have hk : ok2 = true := by
                have h1 := HX.out.1
                rw [h] at h1
                cases ok2
                · cases h1
                · rfl
              have h9 := hoc9 hk
              exact ⟨by rw [← J.out.i.s9.1, List.take_length], by rw [← J.out.i.s9.1, h9, List.take_length]⟩
            have HRE := Lib.hid hra
            clear hra hlt hoc9
            go_wp2
            go_meet
            exact ⟨pa, na, ca, _, pb, nb, cb, _, rfl, rfl, rfl, HOO.out.1, HOO.out.2.1, HOO.out.2.2, (fun k h => Nat.lt_of_lt_of_le hlc (HX.out.2.2.1 k h)), (fun k h => Nat.lt_of_lt_of_le hlc (HX.out.2.2.2.1 k h)), (fun h => HRE.out h), J.out⟩
        -- L2>>
      case rest =>
        obtain ⟨p6, n6, c6, Xa, p7, n7, c7, Xb, rfl, rfl, rfl, hO6, hO7, hO5, hx6, hx7, hXX, hK⟩ := hcut
        cases rok
        · have J := Lib.hid hK
          clear hO6 hO7 hO5 hx6 hx7 hXX hK
          go_wp2
          go_ret2
          exact ⟨.inl ⟨HK3.out.symm, rfl⟩, J.out.bel⟩
        · obtain ⟨rfl, rfl⟩ := hXX rfl
          have hok2 : ok2 = true := by
            have h := HK3.out
            unfold rokC at h
            rw [← HK2.out] at h
            cases ok2
            · cases h
            · rfl
          obtain rfl := HXS.out.2 hok2
          obtain ⟨wd, hwd⟩ : ∃ wd : World, wd = wc := ⟨_, rfl⟩
          rw [← hwd] at hO6 hO7 hO5 hK ⊢
          clear hwd
          have hlen2 := eC_le HK3.out.symm
          have hoc := rokC_of HK3.out.symm
          have hE0 : EPJ w M s z wd.heap.size p n c p6 n6 c6 p7 n7 c7 wd := ⟨hK, hO5, hO6, hO7, fun k h => ⟨HXS.out.1 k h, hO5.lt k h⟩, fun k h => ⟨hx6 k h, hO6.lt k h⟩, fun k h => ⟨hx7 k h, hO7.lt k h⟩⟩
          have E0 := Lib.hid hE0
          have HL := Lib.hid (And.intro hlen2 hoc)
          have hwN : w.heap.size < wd.heap.size := hK.lt
          clear hO6 hO7 hO5 hx6 hx7 hXX hK hE0 hlen2 hoc hok2 HXS HRS HST HK1 HK2 J3 hlc hw0
          go_upto_region 18 with (fail)
          -- <<S1
          have K0 := Lib.hid (And.intro (OB.nil wd) E0.out)
          have N0 := Lib.hid (show ∀ k, owB none 0 0 k → wd.heap.size ≤ k from fun k h => by cases h)
          have hsz : wd.heap.size ≤ wd.heap.size := Nat.le_refl _
          have cd34 := K0.out.2.k.b.d34 hlen
          go_upto_if 188 with (fail)
          go_cut [11] from 185 to 195 (fun v11 wx => ∃ (pe : Option Addr) (ne ce : Nat), v11 = .slice pe ne ce ∧ OB wx pe ne ce (eC1 s) ∧ (∀ k, owB pe ne ce k → wd.heap.size ≤ k) ∧ EPJ w M s z wd.heap.size p n c p6 n6 c6 p7 n7 c7 wx ∧ wd.heap.size ≤ wx.heap.size)
          case first =>
            by_cases hpos : 0 < z.n3
            · have hpi : (0 : Int) < (z.n3 : Int) := by omega
              have HE := Lib.hid (show eC1 s = rextL 43 (vecL 1 (lstL s.vers)) from by unfold eC1; rw [if_pos (by rw [K0.out.2.k.i.s3.1]; exact hpos)])
              have HLL := Lib.hid (show s.vers.length ≤ 8 from by have h1 := all16_len HL.out.2.1.o4; have h2 := all16_len HL.out.2.1.o5; have h3 := all16_len HL.out.2.1.o6; omega)
              go_wp2_with (first
                | (at_builtin; have hq := R3; refine wpList_app8 rfl _ _ rfl K3.out.1 rfl _ q3 m3 k3 _ rfl R3.out.len R3.out.rd R3.out.nilc (by rw [List.length_nil, wext_len, List.length_append, be_length, lstL_len]; have := HLL.out; have := HL.out.1; omega) ?_; intro p9 n9 c9 w9 h1 h2 h3; have H9 := Lib.hid (And.intro h1 (And.intro h2 (K3.out.2.only hwN h3 (fun k hk => N0.out k hk)))); have z9 := h3.size; clear h1 h2 h3)
                | (go_at_call 65; refine (list_c (· < M) z.p3 z.n3 z.c3 s.vers _ K0.out.2.k.i.s3.2.1 K0.out.2.k.i.s3.1 (by rw [← K0.out.2.k.i.s3.1]; have := HF.out; have h1 := HF.out.f2; have h2 := HF.out.f3; have h3 := HF.out.f4; omega)).mono ?_; rintro e w1 ⟨q1, m1, k1, rfl, h1, h2, h3⟩; have K1 := Lib.hid (And.intro (K0.out.1.below h3) (K0.out.2.below hwN h3)); have R1 := Lib.hid h1; have z1 := h3.size; clear h1 h2 h3)
                | (go_at_call 41; refine (vec1_c _ q1 m1 k1 (lstL s.vers) _ R1.out.rd R1.out.nilc (by rw [lstL_len]; have := HLL.out; omega) R1.out.len).mono ?_; intro e w2 hp; obtain ⟨q2, m2, k2, rfl, h1, h2, h3⟩ := hp.new; have K2 := Lib.hid (And.intro (K1.out.1.below h3) (K1.out.2.below hwN h3)); have R2 := Lib.hid h1; have z2 := h3.size; clear h1 h2 h3; clear hp)
                | (go_at_call 39; refine (rext_c 43 _ q2 m2 k2 (be m1 1 ++ lstL s.vers) _ R2.out.rd R2.out.nilc (by rw [List.length_append, be_length, lstL_len]; have := HLL.out; omega) R2.out.len).mono ?_; intro e w3 hp; obtain ⟨q3, m3, k3, rfl, h1, h2, h3⟩ := hp.new; have K3 := Lib.hid (And.intro (K2.out.1.below h3) (K2.out.2.below hwN h3)); have R3 := Lib.hid h1; have z3 := h3.size; clear h1 h2 h3; clear hp))
              go_meet
              have hr := H9.out.1
              rw [← R2.out.len, ← R1.out.len] at hr
              rw [List.nil_append] at hr
              exact ⟨p9, n9, c9, rfl, by rw [HE.out]; exact hr, fun k hk => (by rcases H9.out.2.1 k hk with h | h; exact N0.out k h; omega), H9.out.2.2, by omega⟩
            · have hni : ¬ (0 : Int) < (z.n3 : Int) := by omega
              have HE := Lib.hid (show eC1 s = ([] : List UInt8) from by unfold eC1; rw [if_neg (by rw [K0.out.2.k.i.s3.1]; exact hpos)])
              go_wp2
              go_meet
              exact ⟨_, _, _, rfl, by rw [HE.out]; exact K0.out.1, N0.out, K0.out.2, hsz⟩
          clear K0 N0 hsz cd34
          obtain ⟨r1p, r1n, r1c, rfl, h1, h2, h3, hsz⟩ := hcut
          have K0 := Lib.hid (And.intro h1 h3)
          have N0 := Lib.hid h2
          clear h1 h2 h3
          -- S1>>
          -- <<S2
          have cd35 := K0.out.2.k.b.d35 hlen
          go_upto_if 199 with (fail)
          go_cut [11] from 196 to 206 (fun v11 wx => ∃ (pe : Option Addr) (ne ce : Nat), v11 = .slice pe ne ce ∧ OB wx pe ne ce (eC2 s) ∧ (∀ k, owB pe ne ce k → wd.heap.size ≤ k) ∧ EPJ w M s z wd.heap.size p n c p6 n6 c6 p7 n7 c7 wx ∧ wd.heap.size ≤ wx.heap.size)
          case first =>
            by_cases hpos : 0 < z.n4
            · have hpi : (0 : Int) < (z.n4 : Int) := by omega
              have HE := Lib.hid (show eC2 s = (eC1 s) ++ rextL 10 (vecL 2 (lstL s.grps)) from by unfold eC2; rw [if_pos (by rw [K0.out.2.k.i.s4.1]; exact hpos)])
              have HLL := Lib.hid (show s.grps.length ≤ 8 from by have h1 := all16_len HL.out.2.1.o4; have h2 := all16_len HL.out.2.1.o5; have h3 := all16_len HL.out.2.1.o6; omega)
              go_wp2_with (first
                | (at_builtin; have hq := R3; refine wpList_app8 rfl _ _ rfl K3.out.1 rfl _ q3 m3 k3 _ rfl R3.out.len R3.out.rd R3.out.nilc (by rw [wext_len, List.length_append, be_length, lstL_len]; have := HLL.out; have := HL.out.1; omega) ?_; intro p9 n9 c9 w9 h1 h2 h3; have H9 := Lib.hid (And.intro h1 (And.intro h2 (K3.out.2.only hwN h3 (fun k hk => N0.out k hk)))); have z9 := h3.size; clear h1 h2 h3)
                | (go_at_call 65; refine (list_c (· < M) z.p4 z.n4 z.c4 s.grps _ K0.out.2.k.i.s4.2.1 K0.out.2.k.i.s4.1 (by rw [← K0.out.2.k.i.s4.1]; have := HF.out; have h1 := HF.out.f2; have h2 := HF.out.f3; have h3 := HF.out.f4; omega)).mono ?_; rintro e w1 ⟨q1, m1, k1, rfl, h1, h2, h3⟩; have K1 := Lib.hid (And.intro (K0.out.1.below h3) (K0.out.2.below hwN h3)); have R1 := Lib.hid h1; have z1 := h3.size; clear h1 h2 h3)
                | (go_at_call 41; refine (vec2_c _ q1 m1 k1 (lstL s.grps) _ R1.out.rd R1.out.nilc (by rw [lstL_len]; have := HLL.out; omega) R1.out.len).mono ?_; intro e w2 hp; obtain ⟨q2, m2, k2, rfl, h1, h2, h3⟩ := hp.new; have K2 := Lib.hid (And.intro (K1.out.1.below h3) (K1.out.2.below hwN h3)); have R2 := Lib.hid h1; have z2 := h3.size; clear h1 h2 h3; clear hp)
                | (go_at_call 39; refine (rext_c 10 _ q2 m2 k2 (be m1 2 ++ lstL s.grps) _ R2.out.rd R2.out.nilc (by rw [List.length_append, be_length, lstL_len]; have := HLL.out; omega) R2.out.len).mono ?_; intro e w3 hp; obtain ⟨q3, m3, k3, rfl, h1, h2, h3⟩ := hp.new; have K3 := Lib.hid (And.intro (K2.out.1.below h3) (K2.out.2.below hwN h3)); have R3 := Lib.hid h1; have z3 := h3.size; clear h1 h2 h3; clear hp))
              go_meet
              have hr := H9.out.1
              rw [← R2.out.len, ← R1.out.len] at hr
              exact ⟨p9, n9, c9, rfl, by rw [HE.out]; exact hr, fun k hk => (by rcases H9.out.2.1 k hk with h | h; exact N0.out k h; omega), H9.out.2.2, by omega⟩
            · have hni : ¬ (0 : Int) < (z.n4 : Int) := by omega
              have HE := Lib.hid (show eC2 s = (eC1 s) from by unfold eC2; rw [if_neg (by rw [K0.out.2.k.i.s4.1]; exact hpos)])
              go_wp2
              go_meet
              exact ⟨_, _, _, rfl, by rw [HE.out]; exact K0.out.1, N0.out, K0.out.2, hsz⟩
          clear K0 N0 hsz cd35
          obtain ⟨r2p, r2n, r2c, rfl, h1, h2, h3, hsz⟩ := hcut
          have K0 := Lib.hid (And.intro h1 h3)
          have N0 := Lib.hid h2
          clear h1 h2 h3
          -- S2>>
          -- <<S3
          have cd36 := K0.out.2.k.b.d36 hlen
          go_upto_if 210 with (fail)
          go_cut [11] from 207 to 217 (fun v11 wx => ∃ (pe : Option Addr) (ne ce : Nat), v11 = .slice pe ne ce ∧ OB wx pe ne ce (eC3 s) ∧ (∀ k, owB pe ne ce k → wd.heap.size ≤ k) ∧ EPJ w M s z wd.heap.size p n c p6 n6 c6 p7 n7 c7 wx ∧ wd.heap.size ≤ wx.heap.size)
          case first =>
            by_cases hpos : 0 < z.n5
            · have hpi : (0 : Int) < (z.n5 : Int) := by omega
              have HE := Lib.hid (show eC3 s = (eC2 s) ++ rextL 13 (vecL 2 (lstL s.schs)) from by unfold eC3; rw [if_pos (by rw [K0.out.2.k.i.s5.1]; exact hpos)])
              have HLL := Lib.hid (show s.schs.length ≤ 8 from by have h1 := all16_len HL.out.2.1.o4; have h2 := all16_len HL.out.2.1.o5; have h3 := all16_len HL.out.2.1.o6; omega)
              go_wp2_with (first
                | (at_builtin; have hq := R3; refine wpList_app8 rfl _ _ rfl K3.out.1 rfl _ q3 m3 k3 _ rfl R3.out.len R3.out.rd R3.out.nilc (by rw [wext_len, List.length_append, be_length, lstL_len]; have := HLL.out; have := HL.out.1; omega) ?_; intro p9 n9 c9 w9 h1 h2 h3; have H9 := Lib.hid (And.intro h1 (And.intro h2 (K3.out.2.only hwN h3 (fun k hk => N0.out k hk)))); have z9 := h3.size; clear h1 h2 h3)
                | (go_at_call 65; refine (list_c (· < M) z.p5 z.n5 z.c5 s.schs _ K0.out.2.k.i.s5.2.1 K0.out.2.k.i.s5.1 (by rw [← K0.out.2.k.i.s5.1]; have := HF.out; have h1 := HF.out.f2; have h2 := HF.out.f3; have h3 := HF.out.f4; omega)).mono ?_; rintro e w1 ⟨q1, m1, k1, rfl, h1, h2, h3⟩; have K1 := Lib.hid (And.intro (K0.out.1.below h3) (K0.out.2.below hwN h3)); have R1 := Lib.hid h1; have z1 := h3.size; clear h1 h2 h3)
                | (go_at_call 41; refine (vec2_c _ q1 m1 k1 (lstL s.schs) _ R1.out.rd R1.out.nilc (by rw [lstL_len]; have := HLL.out; omega) R1.out.len).mono ?_; intro e w2 hp; obtain ⟨q2, m2, k2, rfl, h1, h2, h3⟩ := hp.new; have K2 := Lib.hid (And.intro (K1.out.1.below h3) (K1.out.2.below hwN h3)); have R2 := Lib.hid h1; have z2 := h3.size; clear h1 h2 h3; clear hp)
                | (go_at_call 39; refine (rext_c 13 _ q2 m2 k2 (be m1 2 ++ lstL s.schs) _ R2.out.rd R2.out.nilc (by rw [List.length_append, be_length, lstL_len]; have := HLL.out; omega) R2.out.len).mono ?_; intro e w3 hp; obtain ⟨q3, m3, k3, rfl, h1, h2, h3⟩ := hp.new; have K3 := Lib.hid (And.intro (K2.out.1.below h3) (K2.out.2.below hwN h3)); have R3 := Lib.hid h1; have z3 := h3.size; clear h1 h2 h3; clear hp))
              go_meet
              have hr := H9.out.1
              rw [← R2.out.len, ← R1.out.len] at hr
              exact ⟨p9, n9, c9, rfl, by rw [HE.out]; exact hr, fun k hk => (by rcases H9.out.2.1 k hk with h | h; exact N0.out k h; omega), H9.out.2.2, by omega⟩
            · have hni : ¬ (0 : Int) < (z.n5 : Int) := by omega
              have HE := Lib.hid (show eC3 s = (eC2 s) from by unfold eC3; rw [if_neg (by rw [K0.out.2.k.i.s5.1]; exact hpos)])
              go_wp2
              go_meet
              exact ⟨_, _, _, rfl, by rw [HE.out]; exact K0.out.1, N0.out, K0.out.2, hsz⟩
          clear K0 N0 hsz cd36
          obtain ⟨r3p, r3n, r3c, rfl, h1, h2, h3, hsz⟩ := hcut
          have K0 := Lib.hid (And.intro h1 h3)
          have N0 := Lib.hid h2
          clear h1 h2 h3
          -- S3>>
          -- <<S4
          have cd37 := K0.out.2.k.b.d37 hlen
          go_upto_if 221 with (fail)
          go_cut [11] from 218 to 226 (fun v11 wx => ∃ (pe : Option Addr) (ne ce : Nat), v11 = .slice pe ne ce ∧ OB wx pe ne ce (eC4 s) ∧ (∀ k, owB pe ne ce k → wd.heap.size ≤ k) ∧ EPJ w M s z wd.heap.size p n c p6 n6 c6 p7 n7 c7 wx ∧ wd.heap.size ≤ wx.heap.size)
          case first =>
            by_cases hpos : 0 < z.n6
            · have hpi : (0 : Int) < (z.n6 : Int) := by omega
              have HE := Lib.hid (show eC4 s = (eC3 s) ++ rextL 51 (vecL 2 (rshL s.shs)) from by unfold eC4; rw [if_pos (by rw [K0.out.2.k.i.s6.1]; exact hpos)])
              have HLL := Lib.hid (show (rshL s.shs).length ≤ 272 from by have h1 := rshL_le HL.out.2.2.1; have h2 := HL.out.2.1.o7; omega)
              go_wp2_with (first
                | (at_builtin; have hq := R3; refine wpList_app8 rfl _ _ rfl K3.out.1 rfl _ q3 m3 k3 _ rfl R3.out.len R3.out.rd R3.out.nilc (by rw [wext_len, List.length_append, be_length]; have := HLL.out; have := HL.out.1; omega) ?_; intro p9 n9 c9 w9 h1 h2 h3; have H9 := Lib.hid (And.intro h1 (And.intro h2 (K3.out.2.only hwN h3 (fun k hk => N0.out k hk)))); have z9 := h3.size; clear h1 h2 h3)
                | (go_at_call 41; refine (vec2_c _ p n c (rshL s.shs) _ K0.out.2.o5.rd K0.out.2.o5.nilc (by have := HLL.out; omega) K0.out.2.o5.len).mono ?_; intro e w2 hp; obtain ⟨q2, m2, k2, rfl, h1, h2, h3⟩ := hp.new; have K2 := Lib.hid (And.intro (K0.out.1.below h3) (K0.out.2.below hwN h3)); have R2 := Lib.hid h1; have z2 := h3.size; clear h1 h2 h3; clear hp)
                | (go_at_call 39; refine (rext_c 51 _ q2 m2 k2 (be n 2 ++ rshL s.shs) _ R2.out.rd R2.out.nilc (by rw [List.length_append, be_length]; have := HLL.out; omega) R2.out.len).mono ?_; intro e w3 hp; obtain ⟨q3, m3, k3, rfl, h1, h2, h3⟩ := hp.new; have K3 := Lib.hid (And.intro (K2.out.1.below h3) (K2.out.2.below hwN h3)); have R3 := Lib.hid h1; have z3 := h3.size; clear h1 h2 h3; clear hp))
              go_meet
              have hr := H9.out.1
              rw [← R2.out.len, ← K0.out.2.o5.len] at hr
              exact ⟨p9, n9, c9, rfl, by rw [HE.out]; exact hr, fun k hk => (by rcases H9.out.2.1 k hk with h | h; exact N0.out k h; omega), H9.out.2.2, by omega⟩
            · have hni : ¬ (0 : Int) < (z.n6 : Int) := by omega
              have HE := Lib.hid (show eC4 s = (eC3 s) from by unfold eC4; rw [if_neg (by rw [K0.out.2.k.i.s6.1]; exact hpos)])
              go_wp2
              go_meet
              exact ⟨_, _, _, rfl, by rw [HE.out]; exact K0.out.1, N0.out, K0.out.2, hsz⟩
          clear K0 N0 hsz cd37
          obtain ⟨r4p, r4n, r4c, rfl, h1, h2, h3, hsz⟩ := hcut
          have K0 := Lib.hid (And.intro h1 h3)
          have N0 := Lib.hid h2
          clear h1 h2 h3
          -- S4>>
          -- <<S5
          have cd38 := K0.out.2.k.b.d38 hlen
          go_upto_if 230 with (fail)
          go_cut [11] from 227 to 236 (fun v11 wx => ∃ (pe : Option Addr) (ne ce : Nat), v11 = .slice pe ne ce ∧ OB wx pe ne ce (eC5 s) ∧ (∀ k, owB pe ne ce k → wd.heap.size ≤ k) ∧ EPJ w M s z wd.heap.size p n c p6 n6 c6 p7 n7 c7 wx ∧ wd.heap.size ≤ wx.heap.size)
          case first =>
            by_cases hpos : 0 < z.n7
            · have hpi : (0 : Int) < (z.n7 : Int) := by omega
              have HE := Lib.hid (show eC5 s = (eC4 s) ++ rextL 44 (vecL 2 s.cook) from by unfold eC5; rw [if_pos (by rw [K0.out.2.k.i.s7.1]; exact hpos)])
              have HLL := Lib.hid (show s.cook.length ≤ 64 from by have h1 := HL.out.2.1.o8; have h2 := HL.out.2.1.o9; omega)
              go_wp2_with (first
                | (at_builtin; have hq := R3; refine wpList_app8 rfl _ _ rfl K3.out.1 rfl _ q3 m3 k3 _ rfl R3.out.len R3.out.rd R3.out.nilc (by rw [wext_len, List.length_append, be_length]; have := HLL.out; have := HL.out.1; omega) ?_; intro p9 n9 c9 w9 h1 h2 h3; have H9 := Lib.hid (And.intro h1 (And.intro h2 (K3.out.2.only hwN h3 (fun k hk => N0.out k hk)))); have z9 := h3.size; clear h1 h2 h3)
                | (go_at_call 41; refine (vec2_c (· < M) z.p7 z.n7 z.c7 s.cook _ K0.out.2.k.i.s7.2.1 K0.out.2.k.i.s7.2.2.1 (by have := HLL.out; omega) K0.out.2.k.i.s7.1).mono ?_; intro e w2 hp; obtain ⟨q2, m2, k2, rfl, h1, h2, h3⟩ := hp.new; have K2 := Lib.hid (And.intro (K0.out.1.below h3) (K0.out.2.below hwN h3)); have R2 := Lib.hid h1; have z2 := h3.size; clear h1 h2 h3; clear hp)
                | (go_at_call 39; refine (rext_c 44 _ q2 m2 k2 (be z.n7 2 ++ s.cook) _ R2.out.rd R2.out.nilc (by rw [List.length_append, be_length]; have := HLL.out; omega) R2.out.len).mono ?_; intro e w3 hp; obtain ⟨q3, m3, k3, rfl, h1, h2, h3⟩ := hp.new; have K3 := Lib.hid (And.intro (K2.out.1.below h3) (K2.out.2.below hwN h3)); have R3 := Lib.hid h1; have z3 := h3.size; clear h1 h2 h3; clear hp))
              go_meet
              have hr := H9.out.1
              rw [← R2.out.len, ← K0.out.2.k.i.s7.1] at hr
              exact ⟨p9, n9, c9, rfl, by rw [HE.out]; exact hr, fun k hk => (by rcases H9.out.2.1 k hk with h | h; exact N0.out k h; omega), H9.out.2.2, by omega⟩
            · have hni : ¬ (0 : Int) < (z.n7 : Int) := by omega
              have HE := Lib.hid (show eC5 s = (eC4 s) from by unfold eC5; rw [if_neg (by rw [K0.out.2.k.i.s7.1]; exact hpos)])
              go_wp2
              go_meet
              exact ⟨_, _, _, rfl, by rw [HE.out]; exact K0.out.1, N0.out, K0.out.2, hsz⟩
          clear K0 N0 hsz cd38
          obtain ⟨r5p, r5n, r5c, rfl, h1, h2, h3, hsz⟩ := hcut
          have K0 := Lib.hid (And.intro h1 h3)
          have N0 := Lib.hid h2
          clear h1 h2 h3
          -- S5>>
          -- <<S6
          have cd39 := K0.out.2.k.b.d39 hlen
          go_upto_if 240 with (fail)
          go_cut [11] from 237 to 246 (fun v11 wx => ∃ (pe : Option Addr) (ne ce : Nat), v11 = .slice pe ne ce ∧ OB wx pe ne ce (eC6 s) ∧ (∀ k, owB pe ne ce k → wd.heap.size ≤ k) ∧ EPJ w M s z wd.heap.size p n c p6 n6 c6 p7 n7 c7 wx ∧ wd.heap.size ≤ wx.heap.size)
          case first =>
            by_cases hpos : 0 < z.n8
            · have hpi : (0 : Int) < (z.n8 : Int) := by omega
              have HE := Lib.hid (show eC6 s = (eC5 s) ++ rextL 45 (vecL 1 s.modes) from by unfold eC6; rw [if_pos (by rw [K0.out.2.k.i.s8.1]; exact hpos)])
              have HLL := Lib.hid (show s.modes.length ≤ 64 from by have h1 := HL.out.2.1.o8; have h2 := HL.out.2.1.o9; omega)
              go_wp2_with (first
                | (at_builtin; have hq := R3; refine wpList_app8 rfl _ _ rfl K3.out.1 rfl _ q3 m3 k3 _ rfl R3.out.len R3.out.rd R3.out.nilc (by rw [wext_len, List.length_append, be_length]; have := HLL.out; have := HL.out.1; omega) ?_; intro p9 n9 c9 w9 h1 h2 h3; have H9 := Lib.hid (And.intro h1 (And.intro h2 (K3.out.2.only hwN h3 (fun k hk => N0.out k hk)))); have z9 := h3.size; clear h1 h2 h3)
                | (go_at_call 41; refine (vec1_c (· < M) z.p8 z.n8 z.c8 s.modes _ K0.out.2.k.i.s8.2.1 K0.out.2.k.i.s8.2.2.1 (by have := HLL.out; omega) K0.out.2.k.i.s8.1).mono ?_; intro e w2 hp; obtain ⟨q2, m2, k2, rfl, h1, h2, h3⟩ := hp.new; have K2 := Lib.hid (And.intro (K0.out.1.below h3) (K0.out.2.below hwN h3)); have R2 := Lib.hid h1; have z2 := h3.size; clear h1 h2 h3; clear hp)
                | (go_at_call 39; refine (rext_c 45 _ q2 m2 k2 (be z.n8 1 ++ s.modes) _ R2.out.rd R2.out.nilc (by rw [List.length_append, be_length]; have := HLL.out; omega) R2.out.len).mono ?_; intro e w3 hp; obtain ⟨q3, m3, k3, rfl, h1, h2, h3⟩ := hp.new; have K3 := Lib.hid (And.intro (K2.out.1.below h3) (K2.out.2.below hwN h3)); have R3 := Lib.hid h1; have z3 := h3.size; clear h1 h2 h3; clear hp))
              go_meet
              have hr := H9.out.1
              rw [← R2.out.len, ← K0.out.2.k.i.s8.1] at hr
              exact ⟨p9, n9, c9, rfl, by rw [HE.out]; exact hr, fun k hk => (by rcases H9.out.2.1 k hk with h | h; exact N0.out k h; omega), H9.out.2.2, by omega⟩
            · have hni : ¬ (0 : Int) < (z.n8 : Int) := by omega
              have HE := Lib.hid (show eC6 s = (eC5 s) from by unfold eC6; rw [if_neg (by rw [K0.out.2.k.i.s8.1]; exact hpos)])
              go_wp2
              go_meet
              exact ⟨_, _, _, rfl, by rw [HE.out]; exact K0.out.1, N0.out, K0.out.2, hsz⟩
          clear K0 N0 hsz cd39
          obtain ⟨r6p, r6n, r6c, rfl, h1, h2, h3, hsz⟩ := hcut
          have K0 := Lib.hid (And.intro h1 h3)
          have N0 := Lib.hid h2
          clear h1 h2 h3
          -- S6>>
          -- <<S7
          have cd40 := K0.out.2.k.b.d40 hlen
          go_upto_if 250 with (fail)
          go_cut [11] from 247 to 258 (fun v11 wx => ∃ (pe : Option Addr) (ne ce : Nat), v11 = .slice pe ne ce ∧ OB wx pe ne ce (eC7 s) ∧ (∀ k, owB pe ne ce k → wd.heap.size ≤ k) ∧ EPJ w M s z wd.heap.size p n c p6 n6 c6 p7 n7 c7 wx ∧ wd.heap.size ≤ wx.heap.size)
          case first =>
            by_cases hpos : 0 < z.n9
            · have hpi : (0 : Int) < (z.n9 : Int) := by omega
              have HE := Lib.hid (show eC7 s = (eC6 s) ++ rextL 41 (vecL 2 (ridL s.ids) ++ vecL 2 (rbdL s.bnd)) from by unfold eC7; rw [if_pos (by rw [K0.out.2.k.i.s9.1]; exact hpos)])
              have LT0 := Lib.hid K0.out.1.lt
              have HLL := Lib.hid (show (ridL s.ids).length ≤ 1044 ∧ (rbdL s.bnd).length ≤ 132 from by have h0 := zip_all HL.out.2.1.o11 HL.out.2.2.2; have h1 := ridL_le h0.1; have h2 := rbdL_le h0.2; have h3 := HL.out.2.1.o10; have h4 := HL.out.2.1.o11; omega)
              go_wp2_with (first
                | (at_builtin; have hq := R4; refine wpList_app8 rfl _ _ rfl K4.out.1 rfl _ q4 m4 k4 _ rfl R4.out.len R4.out.rd R4.out.nilc (by rw [wext_len, List.length_append, List.length_append, List.length_append, be_length, be_length]; have := HLL.out; have := HL.out.1; omega) ?_; intro p9 n9 c9 w9 h1 h2 h3; have H9 := Lib.hid (And.intro h1 (And.intro h2 (K4.out.2.only hwN h3 (fun k hk => N0.out k hk)))); have z9 := h3.size; clear h1 h2 h3)
                | (go_at_call 39; refine (rext_c 41 _ q3 m3 k3 ((be n6 2 ++ ridL s.ids) ++ (be n7 2 ++ rbdL s.bnd)) _ R3.out.rd R3.out.nilc (by rw [List.length_append, List.length_append, List.length_append, be_length, be_length]; have := HLL.out; omega) R3.out.len).mono ?_; intro e w4 hp; obtain ⟨q4, m4, k4, rfl, h1, h2, h3⟩ := hp.new; have K4 := Lib.hid (And.intro (K3.out.1.below h3) (K3.out.2.below hwN h3)); have R4 := Lib.hid h1; have z4 := h3.size; clear h1 h2 h3; clear hp)
                | (go_at_call 41; have hq := R1; refine (vec2_c _ p7 n7 c7 (rbdL s.bnd) _ K1.out.2.o7.rd K1.out.2.o7.nilc (by have := HLL.out; omega) K1.out.2.o7.len).mono ?_; intro e w2 hp; obtain ⟨q2, m2, k2, rfl, h1, h2, h3⟩ := hp.new; have R1b := Lib.hid (R1.out.below h3); have K2 := Lib.hid (And.intro (K1.out.1.below h3) (K1.out.2.below hwN h3)); have R2 := Lib.hid h1; have z2 := h3.size; clear h1 h2 h3; clear hp)
                | (go_at_call 41; refine (vec2_c _ p6 n6 c6 (ridL s.ids) _ K0.out.2.o6.rd K0.out.2.o6.nilc (by have := HLL.out; omega) K0.out.2.o6.len).mono ?_; intro e w1 hp; obtain ⟨q1, m1, k1, rfl, h1, h2, h3⟩ := hp.new; have X1 := Lib.hid h2; have K1 := Lib.hid (And.intro (K0.out.1.below h3) (K0.out.2.below hwN h3)); have R1 := Lib.hid h1; have z1 := h3.size; clear h1 h2 h3; clear hp)
                | (at_builtin; refine wpList_app8 rfl _ _ rfl R1b.out rfl _ q2 m2 k2 _ rfl R2.out.len R2.out.rd R2.out.nilc (by rw [List.length_append, List.length_append, be_length, be_length]; have := HLL.out; omega) ?_; intro q3 m3 k3 w3 h1 h2 h3; have K3 := Lib.hid (And.intro (K2.out.1.only h3 (fun k hk e => by have h4 := X1.out k e; have h5 := LT0.out k hk; omega)) (K2.out.2.only hwN h3 (fun k hk => by have h4 := X1.out k hk; omega))); have R3 := Lib.hid h1; have z3 := h3.size; clear h1 h2 h3))
              go_meet
              have hr := H9.out.1
              rw [← R3.out.len, ← K0.out.2.o6.len, ← K0.out.2.o7.len] at hr
              exact ⟨p9, n9, c9, rfl, by rw [HE.out]; exact hr, fun k hk => (by rcases H9.out.2.1 k hk with h | h; exact N0.out k h; omega), H9.out.2.2, by omega⟩
            · have hni : ¬ (0 : Int) < (z.n9 : Int) := by omega
              have HE := Lib.hid (show eC7 s = (eC6 s) from by unfold eC7; rw [if_neg (by rw [K0.out.2.k.i.s9.1]; exact hpos)])
              go_wp2
              go_meet
              exact ⟨_, _, _, rfl, by rw [HE.out]; exact K0.out.1, N0.out, K0.out.2, hsz⟩
          clear K0 N0 hsz cd40
          obtain ⟨r7p, r7n, r7c, rfl, h1, h2, h3, hsz⟩ := hcut
          have K0 := Lib.hid (And.intro h1 h3)
          have N0 := Lib.hid h2
          clear h1 h2 h3
          -- S7>>
          obtain ⟨W0, hW0⟩ : ∃ W0 : World, W0 = wc := ⟨_, rfl⟩
          rw [← hW0] at K0 hsz ⊢
          clear hW0
          have hlit : OB (W0.alloc (.cells #[.int .u8 3, .int .u8 3] 5)) (some ⟨W0.heap.size, 0, none⟩) 2 2 [3, 3] := (OB.of_own (Own.lit W0 [3, 3] (by simp))).1
          have HLIT := Lib.hid hlit
          have hba : Below W0.heap.size W0 (W0.alloc (.cells #[.int .u8 3, .int .u8 3] 5)) := (Below.refl _ _).alloc (Nat.le_refl _) _
          have HBA := Lib.hid hba
          have hrnd : Rd (W0.alloc (.cells #[.int .u8 3, .int .u8 3] 5)) (fun k => k = w.heap.size) (some ⟨w.heap.size, 0, none⟩) s.R := by
            refine Rd.of_at rfl fun i hi => ?_
            exact (K0.out.2.k.b.below hba).crnd hlen i _ (by simp [hi])
          have HRN := Lib.hid hrnd
          clear hlit hba hrnd
          go_upto_region 33 with (at_builtin; refine wpList_app8 rfl _ _ rfl HLIT.out rfl (fun k => k = w.heap.size) (some ⟨w.heap.size, 0, none⟩) 32 32 s.R rfl hlen HRN.out (fun h => by cases h) (by rw [hlen]; simp) ?_; intro p8 n8 c8 w8 h1 h2 h3; have H8 := Lib.hid (And.intro h1 (And.intro h2 h3)); have hz8 := h3.size; clear h1 h2 h3)
          rw [World.size_alloc] at hz8
          obtain ⟨W, hW⟩ : ∃ W : World, W = w8 := ⟨_, rfl⟩
          rw [← hW] at H8 hz8 ⊢
          clear hW
          have hx8 : ∀ k, owB p8 n8 c8 k → W0.heap.size ≤ k := fun k hk => by
            rcases H8.out.2.1 k hk with h | h
            · cases h; exact Nat.le_refl _
            · rw [World.size_alloc] at h; omega
          have HO8 := Lib.hid (below_only HBA.out (by rw [World.size_alloc]; omega) H8.out.2.2 (fun k hk e => by have h : W0.heap.size = k := Option.some.inj e; omega))
          have HX8 := Lib.hid hx8
          have HR0 := Lib.hid H8.out.1
          have K8 := Lib.hid (And.intro (K0.out.1.below HO8.out) (K0.out.2.below hwN HO8.out))
          have LT7 := Lib.hid K0.out.1.lt
          have HS := Lib.hid (fun (u : World) (h : Only (fun k => owB p8 n8 c8 k) W u) => (show u.cell? ⟨w.heap.size, 32, none⟩ = some (.slice z.p1 z.n1 z.c1) ∧ u.cell? ⟨w.heap.size, 33, none⟩ = some (.slice z.p2 z.n2 z.c2) from
            ⟨cell_kept h (fun e => by have := HX8.out _ e; omega) (K8.out.2.k.b.d32 hlen), cell_kept h (fun e => by have := HX8.out _ e; omega) (K8.out.2.k.b.d33 hlen)⟩))
          have hM1 := K8.out.2.k.hM
          have HRD1 := Lib.hid (fun (u : World) (h : Only (fun k => owB p8 n8 c8 k) W u) => (K8.out.2.k.i.s1.2.1.only h (fun k hk e => by have h1 := HX8.out _ e; have h2 : k < M := hk; omega) : Rd u (· < M) z.p1 s.ses))
          have HRD2 := Lib.hid (fun (u : World) (h : Only (fun k => owB p8 n8 c8 k) W u) => (RdV.only K8.out.2.k.i.s2.2.1 h (fun k hk e => by have h1 := HX8.out _ e; have h2 : k < M := hk; omega) : RdI u (· < M) z.p2 s.suites))
          have HLL := Lib.hid (show s.ses.length ≤ 32 ∧ s.suites.length ≤ 8 from by have h1 := HL.out.2.1.o1; have h2 := all16_len HL.out.2.1.o3; omega)
          have h11 := K8.out.2.k.i.s1.1
          have h21 := K8.out.2.k.i.s2.1
          have H11 := Lib.hid (And.intro h11 h21)
          clear hx8 h11 h21
          -- <<R33
          refine wp_region_tail (S := fun u => u.cell? ⟨w.heap.size, 32, none⟩ = some (.slice z.p1 z.n1 z.c1) ∧ u.cell? ⟨w.heap.size, 33, none⟩ = some (.slice z.p2 z.n2 z.c2)) (n := 12) (by kernel_rfl) (by decide) ?_
          try simp only [List.drop_succ_cons, List.drop_zero]
          obtain ⟨u0, hu0⟩ : ∃ u, u = W.drew := ⟨_, rfl⟩
          have hba : Below W.heap.size W u0 := by rw [hu0]; exact (Below.refl _ _).drew
          rw [← hu0]
          clear hu0
          have R := HR0.out.below hba
          have X : ∀ k, owB p8 n8 c8 k → owB p8 n8 c8 k ∨ W.heap.size ≤ k := fun k hk => .inl hk
          have HB : Only (fun k => owB p8 n8 c8 k) W u0 := Only.of_below hba
          clear hba
          refine wpAnyT_take (i := 0) (oi := _) (v := .slice p8 n8 c8) rfl (by kernel_rfl) (fun _ _ _ h => h) (by rfl) (by intro wq hSw; go_split_ands; go_simp <;> exact IntKind.wrap_u8 _) (HS.out _ HB) ?_
          try simp only [Act.put, List.setIfInBounds_toArray, List.set_cons_zero, List.set_cons_succ]
          refine wpAnyT_take (i := 1) (oi := _) (v := .pointer (some ⟨w.heap.size, 32, none⟩)) rfl (by kernel_rfl) (fun _ _ _ h => h) (by rfl) (by intro wq hSw; go_split_ands; go_simp <;> exact IntKind.wrap_u8 _) (HS.out _ HB) ?_
          try simp only [Act.put, List.setIfInBounds_toArray, List.set_cons_zero, List.set_cons_succ]
          refine wpAnyT_take (i := 2) (oi := _) (v := .slice z.p1 z.n1 z.c1) rfl (by kernel_rfl) (fun _ _ _ h => h) (by rfl) (by intro wq hSw; go_split_ands; go_simp <;> exact IntKind.wrap_u8 _) (HS.out _ HB) ?_
          try simp only [Act.put, List.setIfInBounds_toArray, List.set_cons_zero, List.set_cons_succ]
          refine wpAnyT_take (i := 5) (oi := _) (v := .pointer (some ⟨w.heap.size, 33, none⟩)) rfl (by kernel_rfl) (fun _ _ _ h => h) (by rfl) (by intro wq hSw; go_split_ands; go_simp <;> exact IntKind.wrap_u8 _) (HS.out _ HB) ?_
          try simp only [Act.put, List.setIfInBounds_toArray, List.set_cons_zero, List.set_cons_succ]
          refine wpAnyT_take (i := 6) (oi := _) (v := .slice z.p2 z.n2 z.c2) rfl (by kernel_rfl) (fun _ _ _ h => h) (by rfl) (by intro wq hSw; go_split_ands; go_simp <;> exact IntKind.wrap_u8 _) (HS.out _ HB) ?_
          try simp only [Act.put, List.setIfInBounds_toArray, List.set_cons_zero, List.set_cons_succ]
          refine wpAnyT_ready (rs := [3, 10]) (by kernel_rfl) (by simp) ?_
          refine AllReadyT.cons rfl (by decide) (fun K hK => ?_) ?_
          · go_simp
            go_wp2_with (go_at_call 41; refine (vec1_c (· < M) z.p1 z.n1 z.c1 s.ses _ (HRD1.out _ HB) K8.out.2.k.i.s1.2.2.1 (by have := HLL.out; omega) H11.out.1).mono ?_; intro e u1 hp; obtain ⟨qq1, mm1, kk1, rfl, E, Ex, hb⟩ := hp.new)
            refine hK.out _ _ (HS.out _ (HB.then (Only.of_below hb))) ?_
            clear hK K
            try simp only [Act.put, List.setIfInBounds_toArray, List.set_cons_zero, List.set_cons_succ]
            replace HB := HB.then (Only.of_below hb)
            replace R := R.below hb
            have z1 := hb.size
            clear hb
            refine wpAnyT_ready (rs := [4, 10]) (by kernel_rfl) (by simp) ?_
            refine AllReadyT.cons rfl (by decide) (fun K hK => ?_) ?_
            · refine step_app8 rfl (.tmp 263) (.tmp 266) rfl R (by simp [Act.eval, Act.put]) _ _ _ _ (be z.n1 1 ++ s.ses) (by simp [Act.eval, Act.put]) E.len E.rd E.nilc (by have h1 := HLL.out; rw [List.length_append, List.length_append, be_length, hlen]; simp only [List.length_cons, List.length_nil]; omega) ?_
              intro pp2 nn2 cc2 u2 R' X' hO
              have hZ := HB.size
              have hB' := HB.trans hO (fun _ h => h) (fun k hk h => by rcases X k h with h | h; exact h; omega)
              refine hK.out _ _ (HS.out _ hB') ?_
              clear hK K
              try simp only [Act.put, List.setIfInBounds_toArray, List.set_cons_zero, List.set_cons_succ]
              replace X : ∀ k, owB pp2 nn2 cc2 k → owB p8 n8 c8 k ∨ W.heap.size ≤ k := fun k h => by rcases X' k h with h | h; exact X k h; exact .inr (by omega)
              replace R := R'
              replace HB := hB'
              clear hB' R' X' hO hZ E Ex
              refine wpAnyT_ready (rs := [7, 10]) (by kernel_rfl) (by simp) ?_
              refine AllReadyT.cons rfl (by decide) (fun K hK => ?_) ?_
              · go_simp
                go_wp2_with (go_at_call 65; refine (list_c (· < M) z.p2 z.n2 z.c2 s.suites _ (HRD2.out _ HB) H11.out.2 (by rw [← H11.out.2]; have := HLL.out; omega)).mono ?_; intro e u3 hp; obtain ⟨qq3, mm3, kk3, rfl, E, Ex, hb⟩ := hp)
                refine hK.out _ _ (HS.out _ (HB.then (Only.of_below hb))) ?_
                clear hK K
                try simp only [Act.put, List.setIfInBounds_toArray, List.set_cons_zero, List.set_cons_succ]
                replace HB := HB.then (Only.of_below hb)
                replace R := R.below hb
                have z3 := hb.size
                clear hb
                have HML := Lib.hid E.len
                refine wpAnyT_ready (rs := [8, 10]) (by kernel_rfl) (by simp) ?_
                refine AllReadyT.cons rfl (by decide) (fun K hK => ?_) ?_
                · go_simp
                  go_wp2_with (go_at_call 41; refine (vec2_c _ qq3 mm3 kk3 (lstL s.suites) _ E.rd E.nilc (by rw [lstL_len]; have := HLL.out; omega) E.len).mono ?_; intro e u4 hp; obtain ⟨qq4, mm4, kk4, rfl, E, Ex, hb⟩ := hp.new)
                  refine hK.out _ _ (HS.out _ (HB.then (Only.of_below hb))) ?_
                  clear hK K
                  try simp only [Act.put, List.setIfInBounds_toArray, List.set_cons_zero, List.set_cons_succ]
                  replace HB := HB.then (Only.of_below hb)
                  replace R := R.below hb
                  have z4 := hb.size
                  clear hb
                  refine wpAnyT_ready (rs := [9, 10]) (by kernel_rfl) (by simp) ?_
                  refine AllReadyT.cons rfl (by decide) (fun K hK => ?_) ?_
                  · refine step_app8 rfl (.tmp 267) (.tmp 271) rfl R (by simp [Act.eval, Act.put]) _ _ _ _ _ (by simp [Act.eval, Act.put]) E.len E.rd E.nilc (by have h1 := HLL.out; simp only [List.length_append, be_length, hlen, lstL_len, List.length_cons, List.length_nil]; omega) ?_
                    intro pp5 nn5 cc5 u5 R' X' hO
                    have hZ := HB.size
                    have hB' := HB.trans hO (fun _ h => h) (fun k hk h => by rcases X k h with h | h; exact h; omega)
                    refine hK.out _ _ (HS.out _ hB') ?_
                    clear hK K
                    try simp only [Act.put, List.setIfInBounds_toArray, List.set_cons_zero, List.set_cons_succ]
                    replace X : ∀ k, owB pp5 nn5 cc5 k → owB p8 n8 c8 k ∨ W.heap.size ≤ k := fun k h => by rcases X' k h with h | h; exact X k h; exact .inr (by omega)
                    replace R := R'
                    replace HB := hB'
                    clear hB' R' X' hO hZ E Ex
                    refine wpAnyT_ready (rs := [10]) (by kernel_rfl) (by simp) ?_
                    refine AllReadyT.cons rfl (by decide) (fun K hK => ?_) ?_
                    · go_simp
                      refine hK.out _ _ (HS.out _ (HB.then (Only.of_below ((Below.refl _ _).alloc (Nat.le_refl _) _)))) ?_
                      clear hK K
                      try simp only [Act.put, List.setIfInBounds_toArray, List.set_cons_zero, List.set_cons_succ]
                      refine wpAnyT_alloc ?_
                      intro u6 hb V
                      have lV : W.heap.size ≤ u5.heap.size := HB.size
                      have nV : ∀ k, owB _ _ _ k → k ≠ u5.heap.size := fun k h => by have := R.lt k h; omega
                      have z6 := hb.size
                      replace R := R.below hb
                      replace HB := HB.then (Only.of_below hb)
                      clear hb
                      generalize u5.heap.size = bV at *
                      refine wpAnyT_ready (rs := [11]) (by kernel_rfl) (by simp) ?_
                      refine AllReadyT.cons rfl (by decide) (fun K hK => ?_) ?_
                      · refine step_app8 rfl (.tmp 272) (.tmp 273) rfl R (by simp [Act.eval, Act.put]) (fun k => k = bV) (some ⟨bV, 0, none⟩) 2 2 [1, 0] (by simp [Act.eval, Act.put]) rfl (blk_rd V rfl) (fun h => by cases h) (by have h1 := HLL.out; simp only [List.length_append, be_length, hlen, lstL_len, List.length_cons, List.length_nil]; omega) ?_
                        intro pp7 nn7 cc7 u7 R' X' hO
                        have hZ := HB.size
                        have hB' := HB.trans hO (fun _ h => h) (fun k hk h => by rcases X k h with h | h; exact h; omega)
                        refine hK.out _ _ (HS.out _ hB') ?_
                        clear hK K
                        try simp only [Act.put, List.setIfInBounds_toArray, List.set_cons_zero, List.set_cons_succ]
                        replace X : ∀ k, owB pp7 nn7 cc7 k → owB p8 n8 c8 k ∨ W.heap.size ≤ k := fun k h => by rcases X' k h with h | h; exact X k h; exact .inr (by omega)
                        replace R := R'
                        replace HB := hB'
                        clear hB' R' X' hO hZ V nV lV
                        refine wpAnyT_tail (by kernel_rfl) ?_
                        have HZ := Lib.hid (And.intro R (And.intro X HB))
                        have KE := Lib.hid (And.intro (K8.out.1.only HB (fun k h1 h2 => by have h3 := LT7.out k h1; have h4 := HX8.out k h2; omega)) (K8.out.2.only hwN HB (fun k hk => by have := HX8.out k hk; omega)))
                        have hz9 := HB.size
                        clear R X HB HS HRD1 HRD2
                        go_wp2_with (first
                          | (go_at_call 41; refine (vec2_c _ r7p r7n r7c (eC7 s) _ KE.out.1.rd KE.out.1.nilc (by have := HL.out.1; omega) KE.out.1.len).mono ?_; intro e w9 hp; obtain ⟨q9, m9, k9, rfl, h1, h2, h3⟩ := hp.new; have H9 := Lib.hid (And.intro h1 (And.intro h2 h3)); have hz10 := h3.size; clear h1 h2 h3 hp)
                          | (at_builtin; refine wpList_app8 rfl _ _ rfl (HZ.out.1.below H9.out.2.2) rfl _ q9 m9 k9 _ rfl H9.out.1.len H9.out.1.rd H9.out.1.nilc (by have h1 := HLL.out; have h2 := HL.out.1; simp only [List.length_append, be_length, hlen, lstL_len, List.length_cons, List.length_nil]; omega) ?_; intro p10 n10 c10 w10 h1 h2 h3; have H10 := Lib.hid (And.intro h1 (And.intro h2 h3)); clear h1 h2 h3))
                        go_ret2
                        have hbe := KE.out.2.k.bel
                        have hr := H10.out.1
                        rw [← HML.out, ← H11.out.1, ← KE.out.1.len] at hr
                        have hXw : ∀ k, owB _ _ _ k → w.heap.size ≤ k := fun k hk => by rcases HZ.out.2.1 k hk with h | h; (have := HX8.out k h; omega); omega
                        refine ⟨.inr ⟨HK3.out.symm, p10, n10, c10, rfl, hr, fun k hk => ?_⟩, below_only (hbe.trans (H9.out.2.2.mono hbe.size)) (Nat.le_trans hbe.size hz10) H10.out.2.2 (fun k hk e => by have := HZ.out.2.1 k e; rcases this with h | h; (have := HX8.out k h; omega); omega)⟩
                        rcases H10.out.2.1 k hk with h | h
                        · exact hXw k h
                        · have := hbe.size; omega
                      exact AllReadyT.nil
                    exact AllReadyT.nil
                  refine AllReadyT.cons rfl (by decide) (fun K hK => ?_) ?_
                  · go_simp
                    refine hK.out _ _ (HS.out _ (HB.then (Only.of_below ((Below.refl _ _).alloc (Nat.le_refl _) _)))) ?_
                    clear hK K
                    try simp only [Act.put, List.setIfInBounds_toArray, List.set_cons_zero, List.set_cons_succ]
                    refine wpAnyT_alloc ?_
                    intro u5 hb V
                    have lV : W.heap.size ≤ u4.heap.size := HB.size
                    have nV : ∀ k, owB _ _ _ k → k ≠ u4.heap.size := fun k h => by have := R.lt k h; omega
                    have z5 := hb.size
                    replace R := R.below hb
                    replace E := E.below hb
                    replace HB := HB.then (Only.of_below hb)
                    clear hb
                    generalize u4.heap.size = bV at *
                    refine wpAnyT_ready (rs := [9]) (by kernel_rfl) (by simp) ?_
                    refine AllReadyT.cons rfl (by decide) (fun K hK => ?_) ?_
                    · refine step_app8 rfl (.tmp 267) (.tmp 271) rfl R (by simp [Act.eval, Act.put]) _ _ _ _ _ (by simp [Act.eval, Act.put]) E.len E.rd E.nilc (by have h1 := HLL.out; simp only [List.length_append, be_length, hlen, lstL_len, List.length_cons, List.length_nil]; omega) ?_
                      intro pp6 nn6 cc6 u6 R' X' hO
                      have hZ := HB.size
                      have hB' := HB.trans hO (fun _ h => h) (fun k hk h => by rcases X k h with h | h; exact h; omega)
                      refine hK.out _ _ (HS.out _ hB') ?_
                      clear hK K
                      try simp only [Act.put, List.setIfInBounds_toArray, List.set_cons_zero, List.set_cons_succ]
                      have tV := V.lt
                      replace V := V.only hO (fun h => nV _ h rfl)
                      replace nV : ∀ k, owB pp6 nn6 cc6 k → k ≠ bV := fun k h => by rcases X' k h with h | h; exact nV k h; omega
                      replace X : ∀ k, owB pp6 nn6 cc6 k → owB p8 n8 c8 k ∨ W.heap.size ≤ k := fun k h => by rcases X' k h with h | h; exact X k h; exact .inr (by omega)
                      replace R := R'
                      replace HB := hB'
                      clear hB' R' X' hO hZ E Ex
                      refine wpAnyT_ready (rs := [11]) (by kernel_rfl) (by simp) ?_
                      refine AllReadyT.cons rfl (by decide) (fun K hK => ?_) ?_
                      · refine step_app8 rfl (.tmp 272) (.tmp 273) rfl R (by simp [Act.eval, Act.put]) (fun k => k = bV) (some ⟨bV, 0, none⟩) 2 2 [1, 0] (by simp [Act.eval, Act.put]) rfl (blk_rd V rfl) (fun h => by cases h) (by have h1 := HLL.out; simp only [List.length_append, be_length, hlen, lstL_len, List.length_cons, List.length_nil]; omega) ?_
                        intro pp7 nn7 cc7 u7 R' X' hO
                        have hZ := HB.size
                        have hB' := HB.trans hO (fun _ h => h) (fun k hk h => by rcases X k h with h | h; exact h; omega)
                        refine hK.out _ _ (HS.out _ hB') ?_
                        clear hK K
                        try simp only [Act.put, List.setIfInBounds_toArray, List.set_cons_zero, List.set_cons_succ]
                        replace X : ∀ k, owB pp7 nn7 cc7 k → owB p8 n8 c8 k ∨ W.heap.size ≤ k := fun k h => by rcases X' k h with h | h; exact X k h; exact .inr (by omega)
                        replace R := R'
                        replace HB := hB'
                        clear hB' R' X' hO hZ V nV lV
                        refine wpAnyT_tail (by kernel_rfl) ?_
                        have HZ := Lib.hid (And.intro R (And.intro X HB))
                        have KE := Lib.hid (And.intro (K8.out.1.only HB (fun k h1 h2 => by have h3 := LT7.out k h1; have h4 := HX8.out k h2; omega)) (K8.out.2.only hwN HB (fun k hk => by have := HX8.out k hk; omega)))
                        have hz9 := HB.size
                        clear R X HB HS HRD1 HRD2
                        go_wp2_with (first
                          | (go_at_call 41; refine (vec2_c _ r7p r7n r7c (eC7 s) _ KE.out.1.rd KE.out.1.nilc (by have := HL.out.1; omega) KE.out.1.len).mono ?_; intro e w9 hp; obtain ⟨q9, m9, k9, rfl, h1, h2, h3⟩ := hp.new; have H9 := Lib.hid (And.intro h1 (And.intro h2 h3)); have hz10 := h3.size; clear h1 h2 h3 hp)
                          | (at_builtin; refine wpList_app8 rfl _ _ rfl (HZ.out.1.below H9.out.2.2) rfl _ q9 m9 k9 _ rfl H9.out.1.len H9.out.1.rd H9.out.1.nilc (by have h1 := HLL.out; have h2 := HL.out.1; simp only [List.length_append, be_length, hlen, lstL_len, List.length_cons, List.length_nil]; omega) ?_; intro p10 n10 c10 w10 h1 h2 h3; have H10 := Lib.hid (And.intro h1 (And.intro h2 h3)); clear h1 h2 h3))
                        go_ret2
                        have hbe := KE.out.2.k.bel
                        have hr := H10.out.1
                        rw [← HML.out, ← H11.out.1, ← KE.out.1.len] at hr
                        have hXw : ∀ k, owB _ _ _ k → w.heap.size ≤ k := fun k hk => by rcases HZ.out.2.1 k hk with h | h; (have := HX8.out k h; omega); omega
                        refine ⟨.inr ⟨HK3.out.symm, p10, n10, c10, rfl, hr, fun k hk => ?_⟩, below_only (hbe.trans (H9.out.2.2.mono hbe.size)) (Nat.le_trans hbe.size hz10) H10.out.2.2 (fun k hk e => by have := HZ.out.2.1 k e; rcases this with h | h; (have := HX8.out k h; omega); omega)⟩
                        rcases H10.out.2.1 k hk with h | h
                        · exact hXw k h
                        · have := hbe.size; omega
                      exact AllReadyT.nil
                    exact AllReadyT.nil
                  exact AllReadyT.nil
                refine AllReadyT.cons rfl (by decide) (fun K hK => ?_) ?_
                · go_simp
                  refine hK.out _ _ (HS.out _ (HB.then (Only.of_below ((Below.refl _ _).alloc (Nat.le_refl _) _)))) ?_
                  clear hK K
                  try simp only [Act.put, List.setIfInBounds_toArray, List.set_cons_zero, List.set_cons_succ]
                  refine wpAnyT_alloc ?_
                  intro u4 hb V
                  have lV : W.heap.size ≤ u3.heap.size := HB.size
                  have nV : ∀ k, owB _ _ _ k → k ≠ u3.heap.size := fun k h => by have := R.lt k h; omega
                  have z4 := hb.size
                  replace R := R.below hb
                  replace E := E.below hb
                  replace HB := HB.then (Only.of_below hb)
                  clear hb
                  generalize u3.heap.size = bV at *
                  refine wpAnyT_ready (rs := [8]) (by kernel_rfl) (by simp) ?_
                  refine AllReadyT.cons rfl (by decide) (fun K hK => ?_) ?_
                  · go_simp
                    go_wp2_with (go_at_call 41; refine (vec2_c _ qq3 mm3 kk3 (lstL s.suites) _ E.rd E.nilc (by rw [lstL_len]; have := HLL.out; omega) E.len).mono ?_; intro e u5 hp; obtain ⟨qq5, mm5, kk5, rfl, E, Ex, hb⟩ := hp.new)
                    refine hK.out _ _ (HS.out _ (HB.then (Only.of_below hb))) ?_
                    clear hK K
                    try simp only [Act.put, List.setIfInBounds_toArray, List.set_cons_zero, List.set_cons_succ]
                    replace HB := HB.then (Only.of_below hb)
                    replace R := R.below hb
                    replace V := V.below hb
                    have z5 := hb.size
                    clear hb
                    refine wpAnyT_ready (rs := [9]) (by kernel_rfl) (by simp) ?_
                    refine AllReadyT.cons rfl (by decide) (fun K hK => ?_) ?_
                    · refine step_app8 rfl (.tmp 267) (.tmp 271) rfl R (by simp [Act.eval, Act.put]) _ _ _ _ _ (by simp [Act.eval, Act.put]) E.len E.rd E.nilc (by have h1 := HLL.out; simp only [List.length_append, be_length, hlen, lstL_len, List.length_cons, List.length_nil]; omega) ?_
                      intro pp6 nn6 cc6 u6 R' X' hO
                      have hZ := HB.size
                      have hB' := HB.trans hO (fun _ h => h) (fun k hk h => by rcases X k h with h | h; exact h; omega)
                      refine hK.out _ _ (HS.out _ hB') ?_
                      clear hK K
                      try simp only [Act.put, List.setIfInBounds_toArray, List.set_cons_zero, List.set_cons_succ]
                      have tV := V.lt
                      replace V := V.only hO (fun h => nV _ h rfl)
                      replace nV : ∀ k, owB pp6 nn6 cc6 k → k ≠ bV := fun k h => by rcases X' k h with h | h; exact nV k h; omega
                      replace X : ∀ k, owB pp6 nn6 cc6 k → owB p8 n8 c8 k ∨ W.heap.size ≤ k := fun k h => by rcases X' k h with h | h; exact X k h; exact .inr (by omega)
                      replace R := R'
                      replace HB := hB'
                      clear hB' R' X' hO hZ E Ex
                      refine wpAnyT_ready (rs := [11]) (by kernel_rfl) (by simp) ?_
                      refine AllReadyT.cons rfl (by decide) (fun K hK => ?_) ?_
                      · refine step_app8 rfl (.tmp 272) (.tmp 273) rfl R (by simp [Act.eval, Act.put]) (fun k => k = bV) (some ⟨bV, 0, none⟩) 2 2 [1, 0] (by simp [Act.eval, Act.put]) rfl (blk_rd V rfl) (fun h => by cases h) (by have h1 := HLL.out; simp only [List.length_append, be_length, hlen, lstL_len, List.length_cons, List.length_nil]; omega) ?_
                        intro pp7 nn7 cc7 u7 R' X' hO
                        have hZ := HB.size
                        have hB' := HB.trans hO (fun _ h => h) (fun k hk h => by rcases X k h with h | h; exact h; omega)
                        refine hK.out _ _ (HS.out _ hB') ?_
                        clear hK K
                        try simp only [Act.put, List.setIfInBounds_toArray, List.set_cons_zero, List.set_cons_succ]
                        replace X : ∀ k, owB pp7 nn7 cc7 k → owB p8 n8 c8 k ∨ W.heap.size ≤ k := fun k h => by rcases X' k h with h | h; exact X k h; exact .inr (by omega)
                        replace R := R'
                        replace HB := hB'
                        clear hB' R' X' hO hZ V nV lV
                        refine wpAnyT_tail (by kernel_rfl) ?_
                        have HZ := Lib.hid (And.intro R (And.intro X HB))
                        have KE := Lib.hid (And.intro (K8.out.1.only HB (fun k h1 h2 => by have h3 := LT7.out k h1; have h4 := HX8.out k h2; omega)) (K8.out.2.only hwN HB (fun k hk => by have := HX8.out k hk; omega)))
                        have hz9 := HB.size
                        clear R X HB HS HRD1 HRD2
                        go_wp2_with (first
                          | (go_at_call 41; refine (vec2_c _ r7p r7n r7c (eC7 s) _ KE.out.1.rd KE.out.1.nilc (by have := HL.out.1; omega) KE.out.1.len).mono ?_; intro e w9 hp; obtain ⟨q9, m9, k9, rfl, h1, h2, h3⟩ := hp.new; have H9 := Lib.hid (And.intro h1 (And.intro h2 h3)); have hz10 := h3.size; clear h1 h2 h3 hp)
                          | (at_builtin; refine wpList_app8 rfl _ _ rfl (HZ.out.1.below H9.out.2.2) rfl _ q9 m9 k9 _ rfl H9.out.1.len H9.out.1.rd H9.out.1.nilc (by have h1 := HLL.out; have h2 := HL.out.1; simp only [List.length_append, be_length, hlen, lstL_len, List.length_cons, List.length_nil]; omega) ?_; intro p10 n10 c10 w10 h1 h2 h3; have H10 := Lib.hid (And.intro h1 (And.intro h2 h3)); clear h1 h2 h3))
                        go_ret2
                        have hbe := KE.out.2.k.bel
                        have hr := H10.out.1
                        rw [← HML.out, ← H11.out.1, ← KE.out.1.len] at hr
                        have hXw : ∀ k, owB _ _ _ k → w.heap.size ≤ k := fun k hk => by rcases HZ.out.2.1 k hk with h | h; (have := HX8.out k h; omega); omega
                        refine ⟨.inr ⟨HK3.out.symm, p10, n10, c10, rfl, hr, fun k hk => ?_⟩, below_only (hbe.trans (H9.out.2.2.mono hbe.size)) (Nat.le_trans hbe.size hz10) H10.out.2.2 (fun k hk e => by have := HZ.out.2.1 k e; rcases this with h | h; (have := HX8.out k h; omega); omega)⟩
                        rcases H10.out.2.1 k hk with h | h
                        · exact hXw k h
                        · have := hbe.size; omega
                      exact AllReadyT.nil
                    exact AllReadyT.nil
                  exact AllReadyT.nil
                exact AllReadyT.nil
              refine AllReadyT.cons rfl (by decide) (fun K hK => ?_) ?_
              · go_simp
                refine hK.out _ _ (HS.out _ (HB.then (Only.of_below ((Below.refl _ _).alloc (Nat.le_refl _) _)))) ?_
                clear hK K
                try simp only [Act.put, List.setIfInBounds_toArray, List.set_cons_zero, List.set_cons_succ]
                refine wpAnyT_alloc ?_
                intro u3 hb V
                have lV : W.heap.size ≤ u2.heap.size := HB.size
                have nV : ∀ k, owB _ _ _ k → k ≠ u2.heap.size := fun k h => by have := R.lt k h; omega
                have z3 := hb.size
                replace R := R.below hb
                replace HB := HB.then (Only.of_below hb)
                clear hb
                generalize u2.heap.size = bV at *
                refine wpAnyT_ready (rs := [7]) (by kernel_rfl) (by simp) ?_
                refine AllReadyT.cons rfl (by decide) (fun K hK => ?_) ?_
                · go_simp
                  go_wp2_with (go_at_call 65; refine (list_c (· < M) z.p2 z.n2 z.c2 s.suites _ (HRD2.out _ HB) H11.out.2 (by rw [← H11.out.2]; have := HLL.out; omega)).mono ?_; intro e u4 hp; obtain ⟨qq4, mm4, kk4, rfl, E, Ex, hb⟩ := hp)
                  refine hK.out _ _ (HS.out _ (HB.then (Only.of_below hb))) ?_
                  clear hK K
                  try simp only [Act.put, List.setIfInBounds_toArray, List.set_cons_zero, List.set_cons_succ]
                  replace HB := HB.then (Only.of_below hb)
                  replace R := R.below hb
                  replace V := V.below hb
                  have z4 := hb.size
                  clear hb
                  have HML := Lib.hid E.len
                  refine wpAnyT_ready (rs := [8]) (by kernel_rfl) (by simp) ?_
                  refine AllReadyT.cons rfl (by decide) (fun K hK => ?_) ?_
                  · go_simp
                    go_wp2_with (go_at_call 41; refine (vec2_c _ qq4 mm4 kk4 (lstL s.suites) _ E.rd E.nilc (by rw [lstL_len]; have := HLL.out; omega) E.len).mono ?_; intro e u5 hp; obtain ⟨qq5, mm5, kk5, rfl, E, Ex, hb⟩ := hp.new)
                    refine hK.out _ _ (HS.out _ (HB.then (Only.of_below hb))) ?_
                    clear hK K
                    try simp only [Act.put, List.setIfInBounds_toArray, List.set_cons_zero, List.set_cons_succ]
                    replace HB := HB.then (Only.of_below hb)
                    replace R := R.below hb
                    replace V := V.below hb
                    have z5 := hb.size
                    clear hb
                    refine wpAnyT_ready (rs := [9]) (by kernel_rfl) (by simp) ?_
                    refine AllReadyT.cons rfl (by decide) (fun K hK => ?_) ?_
                    · refine step_app8 rfl (.tmp 267) (.tmp 271) rfl R (by simp [Act.eval, Act.put]) _ _ _ _ _ (by simp [Act.eval, Act.put]) E.len E.rd E.nilc (by have h1 := HLL.out; simp only [List.length_append, be_length, hlen, lstL_len, List.length_cons, List.length_nil]; omega) ?_
                      intro pp6 nn6 cc6 u6 R' X' hO
                      have hZ := HB.size
                      have hB' := HB.trans hO (fun _ h => h) (fun k hk h => by rcases X k h with h | h; exact h; omega)
                      refine hK.out _ _ (HS.out _ hB') ?_
                      clear hK K
                      try simp only [Act.put, List.setIfInBounds_toArray, List.set_cons_zero, List.set_cons_succ]
                      have tV := V.lt
                      replace V := V.only hO (fun h => nV _ h rfl)
                      replace nV : ∀ k, owB pp6 nn6 cc6 k → k ≠ bV := fun k h => by rcases X' k h with h | h; exact nV k h; omega
                      replace X : ∀ k, owB pp6 nn6 cc6 k → owB p8 n8 c8 k ∨ W.heap.size ≤ k := fun k h => by rcases X' k h with h | h; exact X k h; exact .inr (by omega)
                      replace R := R'
                      replace HB := hB'
                      clear hB' R' X' hO hZ E Ex
                      refine wpAnyT_ready (rs := [11]) (by kernel_rfl) (by simp) ?_
                      refine AllReadyT.cons rfl (by decide) (fun K hK => ?_) ?_
                      · refine step_app8 rfl (.tmp 272) (.tmp 273) rfl R (by simp [Act.eval, Act.put]) (fun k => k = bV) (some ⟨bV, 0, none⟩) 2 2 [1, 0] (by simp [Act.eval, Act.put]) rfl (blk_rd V rfl) (fun h => by cases h) (by have h1 := HLL.out; simp only [List.length_append, be_length, hlen, lstL_len, List.length_cons, List.length_nil]; omega) ?_
                        intro pp7 nn7 cc7 u7 R' X' hO
                        have hZ := HB.size
                        have hB' := HB.trans hO (fun _ h => h) (fun k hk h => by rcases X k h with h | h; exact h; omega)
                        refine hK.out _ _ (HS.out _ hB') ?_
                        clear hK K
                        try simp only [Act.put, List.setIfInBounds_toArray, List.set_cons_zero, List.set_cons_succ]
                        replace X : ∀ k, owB pp7 nn7 cc7 k → owB p8 n8 c8 k ∨ W.heap.size ≤ k := fun k h => by rcases X' k h with h | h; exact X k h; exact .inr (by omega)
                        replace R := R'
                        replace HB := hB'
                        clear hB' R' X' hO hZ V nV lV
                        refine wpAnyT_tail (by kernel_rfl) ?_
                        have HZ := Lib.hid (And.intro R (And.intro X HB))
                        have KE := Lib.hid (And.intro (K8.out.1.only HB (fun k h1 h2 => by have h3 := LT7.out k h1; have h4 := HX8.out k h2; omega)) (K8.out.2.only hwN HB (fun k hk => by have := HX8.out k hk; omega)))
                        have hz9 := HB.size
                        clear R X HB HS HRD1 HRD2
                        go_wp2_with (first
                          | (go_at_call 41; refine (vec2_c _ r7p r7n r7c (eC7 s) _ KE.out.1.rd KE.out.1.nilc (by have := HL.out.1; omega) KE.out.1.len).mono ?_; intro e w9 hp; obtain ⟨q9, m9, k9, rfl, h1, h2, h3⟩ := hp.new; have H9 := Lib.hid (And.intro h1 (And.intro h2 h3)); have hz10 := h3.size; clear h1 h2 h3 hp)
                          | (at_builtin; refine wpList_app8 rfl _ _ rfl (HZ.out.1.below H9.out.2.2) rfl _ q9 m9 k9 _ rfl H9.out.1.len H9.out.1.rd H9.out.1.nilc (by have h1 := HLL.out; have h2 := HL.out.1; simp only [List.length_append, be_length, hlen, lstL_len, List.length_cons, List.length_nil]; omega) ?_; intro p10 n10 c10 w10 h1 h2 h3; have H10 := Lib.hid (And.intro h1 (And.intro h2 h3)); clear h1 h2 h3))
                        go_ret2
                        have hbe := KE.out.2.k.bel
                        have hr := H10.out.1
                        rw [← HML.out, ← H11.out.1, ← KE.out.1.len] at hr
                        have hXw : ∀ k, owB _ _ _ k → w.heap.size ≤ k := fun k hk => by rcases HZ.out.2.1 k hk with h | h; (have := HX8.out k h; omega); omega
                        refine ⟨.inr ⟨HK3.out.symm, p10, n10, c10, rfl, hr, fun k hk => ?_⟩, below_only (hbe.trans (H9.out.2.2.mono hbe.size)) (Nat.le_trans hbe.size hz10) H10.out.2.2 (fun k hk e => by have := HZ.out.2.1 k e; rcases this with h | h; (have := HX8.out k h; omega); omega)⟩
                        rcases H10.out.2.1 k hk with h | h
                        · exact hXw k h
                        · have := hbe.size; omega
                      exact AllReadyT.nil
                    exact AllReadyT.nil
                  exact AllReadyT.nil
                exact AllReadyT.nil
              exact AllReadyT.nil
            refine AllReadyT.cons rfl (by decide) (fun K hK => ?_) ?_
            · go_simp
              refine hK.out _ _ (HS.out _ (HB.then (Only.of_below ((Below.refl _ _).alloc (Nat.le_refl _) _)))) ?_
              clear hK K
              try simp only [Act.put, List.setIfInBounds_toArray, List.set_cons_zero, List.set_cons_succ]
              refine wpAnyT_alloc ?_
              intro u2 hb V
              have lV : W.heap.size ≤ u1.heap.size := HB.size
              have nV : ∀ k, owB _ _ _ k → k ≠ u1.heap.size := fun k h => by have := R.lt k h; omega
              have z2 := hb.size
              replace R := R.below hb
              replace E := E.below hb
              replace HB := HB.then (Only.of_below hb)
              clear hb
              generalize u1.heap.size = bV at *
              refine wpAnyT_ready (rs := [4]) (by kernel_rfl) (by simp) ?_
              refine AllReadyT.cons rfl (by decide) (fun K hK => ?_) ?_
              · refine step_app8 rfl (.tmp 263) (.tmp 266) rfl R (by simp [Act.eval, Act.put]) _ _ _ _ (be z.n1 1 ++ s.ses) (by simp [Act.eval, Act.put]) E.len E.rd E.nilc (by have h1 := HLL.out; rw [List.length_append, List.length_append, be_length, hlen]; simp only [List.length_cons, List.length_nil]; omega) ?_
                intro pp3 nn3 cc3 u3 R' X' hO
                have hZ := HB.size
                have hB' := HB.trans hO (fun _ h => h) (fun k hk h => by rcases X k h with h | h; exact h; omega)
                refine hK.out _ _ (HS.out _ hB') ?_
                clear hK K
                try simp only [Act.put, List.setIfInBounds_toArray, List.set_cons_zero, List.set_cons_succ]
                have tV := V.lt
                replace V := V.only hO (fun h => nV _ h rfl)
                replace nV : ∀ k, owB pp3 nn3 cc3 k → k ≠ bV := fun k h => by rcases X' k h with h | h; exact nV k h; omega
                replace X : ∀ k, owB pp3 nn3 cc3 k → owB p8 n8 c8 k ∨ W.heap.size ≤ k := fun k h => by rcases X' k h with h | h; exact X k h; exact .inr (by omega)
                replace R := R'
                replace HB := hB'
                clear hB' R' X' hO hZ E Ex
                refine wpAnyT_ready (rs := [7]) (by kernel_rfl) (by simp) ?_
                refine AllReadyT.cons rfl (by decide) (fun K hK => ?_) ?_
                · go_simp
                  go_wp2_with (go_at_call 65; refine (list_c (· < M) z.p2 z.n2 z.c2 s.suites _ (HRD2.out _ HB) H11.out.2 (by rw [← H11.out.2]; have := HLL.out; omega)).mono ?_; intro e u4 hp; obtain ⟨qq4, mm4, kk4, rfl, E, Ex, hb⟩ := hp)
                  refine hK.out _ _ (HS.out _ (HB.then (Only.of_below hb))) ?_
                  clear hK K
                  try simp only [Act.put, List.setIfInBounds_toArray, List.set_cons_zero, List.set_cons_succ]
                  replace HB := HB.then (Only.of_below hb)
                  replace R := R.below hb
                  replace V := V.below hb
                  have z4 := hb.size
                  clear hb
                  have HML := Lib.hid E.len
                  refine wpAnyT_ready (rs := [8]) (by kernel_rfl) (by simp) ?_
                  refine AllReadyT.cons rfl (by decide) (fun K hK => ?_) ?_
                  · go_simp
                    go_wp2_with (go_at_call 41; refine (vec2_c _ qq4 mm4 kk4 (lstL s.suites) _ E.rd E.nilc (by rw [lstL_len]; have := HLL.out; omega) E.len).mono ?_; intro e u5 hp; obtain ⟨qq5, mm5, kk5, rfl, E, Ex, hb⟩ := hp.new)
                    refine hK.out _ _ (HS.out _ (HB.then (Only.of_below hb))) ?_
                    clear hK K
                    try simp only [Act.put, List.setIfInBounds_toArray, List.set_cons_zero, List.set_cons_succ]
                    replace HB := HB.then (Only.of_below hb)
                    replace R := R.below hb
                    replace V := V.below hb
                    have z5 := hb.size
                    clear hb
                    refine wpAnyT_ready (rs := [9]) (by kernel_rfl) (by simp) ?_
                    refine AllReadyT.cons rfl (by decide) (fun K hK => ?_) ?_
                    · refine step_app8 rfl (.tmp 267) (.tmp 271) rfl R (by simp [Act.eval, Act.put]) _ _ _ _ _ (by simp [Act.eval, Act.put]) E.len E.rd E.nilc (by have h1 := HLL.out; simp only [List.length_append, be_length, hlen, lstL_len, List.length_cons, List.length_nil]; omega) ?_
                      intro pp6 nn6 cc6 u6 R' X' hO
                      have hZ := HB.size
                      have hB' := HB.trans hO (fun _ h => h) (fun k hk h => by rcases X k h with h | h; exact h; omega)
                      refine hK.out _ _ (HS.out _ hB') ?_
                      clear hK K
                      try simp only [Act.put, List.setIfInBounds_toArray, List.set_cons_zero, List.set_cons_succ]
                      have tV := V.lt
                      replace V := V.only hO (fun h => nV _ h rfl)
                      replace nV : ∀ k, owB pp6 nn6 cc6 k → k ≠ bV := fun k h => by rcases X' k h with h | h; exact nV k h; omega
                      replace X : ∀ k, owB pp6 nn6 cc6 k → owB p8 n8 c8 k ∨ W.heap.size ≤ k := fun k h => by rcases X' k h with h | h; exact X k h; exact .inr (by omega)
                      replace R := R'
                      replace HB := hB'
                      clear hB' R' X' hO hZ E Ex
                      refine wpAnyT_ready (rs := [11]) (by kernel_rfl) (by simp) ?_
                      refine AllReadyT.cons rfl (by decide) (fun K hK => ?_) ?_
                      · refine step_app8 rfl (.tmp 272) (.tmp 273) rfl R (by simp [Act.eval, Act.put]) (fun k => k = bV) (some ⟨bV, 0, none⟩) 2 2 [1, 0] (by simp [Act.eval, Act.put]) rfl (blk_rd V rfl) (fun h => by cases h) (by have h1 := HLL.out; simp only [List.length_append, be_length, hlen, lstL_len, List.length_cons, List.length_nil]; omega) ?_
                        intro pp7 nn7 cc7 u7 R' X' hO
                        have hZ := HB.size
                        have hB' := HB.trans hO (fun _ h => h) (fun k hk h => by rcases X k h with h | h; exact h; omega)
                        refine hK.out _ _ (HS.out _ hB') ?_
                        clear hK K
                        try simp only [Act.put, List.setIfInBounds_toArray, List.set_cons_zero, List.set_cons_succ]
                        replace X : ∀ k, owB pp7 nn7 cc7 k → owB p8 n8 c8 k ∨ W.heap.size ≤ k := fun k h => by rcases X' k h with h | h; exact X k h; exact .inr (by omega)
                        replace R := R'
                        replace HB := hB'
                        clear hB' R' X' hO hZ V nV lV
                        refine wpAnyT_tail (by kernel_rfl) ?_
                        have HZ := Lib.hid (And.intro R (And.intro X HB))
                        have KE := Lib.hid (And.intro (K8.out.1.only HB (fun k h1 h2 => by have h3 := LT7.out k h1; have h4 := HX8.out k h2; omega)) (K8.out.2.only hwN HB (fun k hk => by have := HX8.out k hk; omega)))
                        have hz9 := HB.size
                        clear R X HB HS HRD1 HRD2
                        go_wp2_with (first
                          | (go_at_call 41; refine (vec2_c _ r7p r7n r7c (eC7 s) _ KE.out.1.rd KE.out.1.nilc (by have := HL.out.1; omega) KE.out.1.len).mono ?_; intro e w9 hp; obtain ⟨q9, m9, k9, rfl, h1, h2, h3⟩ := hp.new; have H9 := Lib.hid (And.intro h1 (And.intro h2 h3)); have hz10 := h3.size; clear h1 h2 h3 hp)
                          | (at_builtin; refine wpList_app8 rfl _ _ rfl (HZ.out.1.below H9.out.2.2) rfl _ q9 m9 k9 _ rfl H9.out.1.len H9.out.1.rd H9.out.1.nilc (by have h1 := HLL.out; have h2 := HL.out.1; simp only [List.length_append, be_length, hlen, lstL_len, List.length_cons, List.length_nil]; omega) ?_; intro p10 n10 c10 w10 h1 h2 h3; have H10 := Lib.hid (And.intro h1 (And.intro h2 h3)); clear h1 h2 h3))
                        go_ret2
                        have hbe := KE.out.2.k.bel
                        have hr := H10.out.1
                        rw [← HML.out, ← H11.out.1, ← KE.out.1.len] at hr
                        have hXw : ∀ k, owB _ _ _ k → w.heap.size ≤ k := fun k hk => by rcases HZ.out.2.1 k hk with h | h; (have := HX8.out k h; omega); omega
                        refine ⟨.inr ⟨HK3.out.symm, p10, n10, c10, rfl, hr, fun k hk => ?_⟩, below_only (hbe.trans (H9.out.2.2.mono hbe.size)) (Nat.le_trans hbe.size hz10) H10.out.2.2 (fun k hk e => by have := HZ.out.2.1 k e; rcases this with h | h; (have := HX8.out k h; omega); omega)⟩
                        rcases H10.out.2.1 k hk with h | h
                        · exact hXw k h
                        · have := hbe.size; omega
                      exact AllReadyT.nil
                    exact AllReadyT.nil
                  exact AllReadyT.nil
                exact AllReadyT.nil
              exact AllReadyT.nil
            exact AllReadyT.nil
          refine AllReadyT.cons rfl (by decide) (fun K hK => ?_) ?_
          · go_simp
            refine hK.out _ _ (HS.out _ (HB.then (Only.of_below ((Below.refl _ _).alloc (Nat.le_refl _) _)))) ?_
            clear hK K
            try simp only [Act.put, List.setIfInBounds_toArray, List.set_cons_zero, List.set_cons_succ]
            refine wpAnyT_alloc ?_
            intro u1 hb V
            have lV : W.heap.size ≤ u0.heap.size := HB.size
            have nV : ∀ k, owB _ _ _ k → k ≠ u0.heap.size := fun k h => by have := R.lt k h; omega
            have z1 := hb.size
            replace R := R.below hb
            replace HB := HB.then (Only.of_below hb)
            clear hb
            generalize u0.heap.size = bV at *
            refine wpAnyT_ready (rs := [3]) (by kernel_rfl) (by simp) ?_
            refine AllReadyT.cons rfl (by decide) (fun K hK => ?_) ?_
            · go_simp
              go_wp2_with (go_at_call 41; refine (vec1_c (· < M) z.p1 z.n1 z.c1 s.ses _ (HRD1.out _ HB) K8.out.2.k.i.s1.2.2.1 (by have := HLL.out; omega) H11.out.1).mono ?_; intro e u2 hp; obtain ⟨qq2, mm2, kk2, rfl, E, Ex, hb⟩ := hp.new)
              refine hK.out _ _ (HS.out _ (HB.then (Only.of_below hb))) ?_
              clear hK K
              try simp only [Act.put, List.setIfInBounds_toArray, List.set_cons_zero, List.set_cons_succ]
              replace HB := HB.then (Only.of_below hb)
              replace R := R.below hb
              replace V := V.below hb
              have z2 := hb.size
              clear hb
              refine wpAnyT_ready (rs := [4]) (by kernel_rfl) (by simp) ?_
              refine AllReadyT.cons rfl (by decide) (fun K hK => ?_) ?_
              · refine step_app8 rfl (.tmp 263) (.tmp 266) rfl R (by simp [Act.eval, Act.put]) _ _ _ _ (be z.n1 1 ++ s.ses) (by simp [Act.eval, Act.put]) E.len E.rd E.nilc (by have h1 := HLL.out; rw [List.length_append, List.length_append, be_length, hlen]; simp only [List.length_cons, List.length_nil]; omega) ?_
                intro pp3 nn3 cc3 u3 R' X' hO
                have hZ := HB.size
                have hB' := HB.trans hO (fun _ h => h) (fun k hk h => by rcases X k h with h | h; exact h; omega)
                refine hK.out _ _ (HS.out _ hB') ?_
                clear hK K
                try simp only [Act.put, List.setIfInBounds_toArray, List.set_cons_zero, List.set_cons_succ]
                have tV := V.lt
                replace V := V.only hO (fun h => nV _ h rfl)
                replace nV : ∀ k, owB pp3 nn3 cc3 k → k ≠ bV := fun k h => by rcases X' k h with h | h; exact nV k h; omega
                replace X : ∀ k, owB pp3 nn3 cc3 k → owB p8 n8 c8 k ∨ W.heap.size ≤ k := fun k h => by rcases X' k h with h | h; exact X k h; exact .inr (by omega)
                replace R := R'
                replace HB := hB'
                clear hB' R' X' hO hZ E Ex
                refine wpAnyT_ready (rs := [7]) (by kernel_rfl) (by simp) ?_
                refine AllReadyT.cons rfl (by decide) (fun K hK => ?_) ?_
                · go_simp
                  go_wp2_with (go_at_call 65; refine (list_c (· < M) z.p2 z.n2 z.c2 s.suites _ (HRD2.out _ HB) H11.out.2 (by rw [← H11.out.2]; have := HLL.out; omega)).mono ?_; intro e u4 hp; obtain ⟨qq4, mm4, kk4, rfl, E, Ex, hb⟩ := hp)
                  refine hK.out _ _ (HS.out _ (HB.then (Only.of_below hb))) ?_
                  clear hK K
                  try simp only [Act.put, List.setIfInBounds_toArray, List.set_cons_zero, List.set_cons_succ]
                  replace HB := HB.then (Only.of_below hb)
                  replace R := R.below hb
                  replace V := V.below hb
                  have z4 := hb.size
                  clear hb
                  have HML := Lib.hid E.len
                  refine wpAnyT_ready (rs := [8]) (by kernel_rfl) (by simp) ?_
                  refine AllReadyT.cons rfl (by decide) (fun K hK => ?_) ?_
                  · go_simp
                    go_wp2_with (go_at_call 41; refine (vec2_c _ qq4 mm4 kk4 (lstL s.suites) _ E.rd E.nilc (by rw [lstL_len]; have := HLL.out; omega) E.len).mono ?_; intro e u5 hp; obtain ⟨qq5, mm5, kk5, rfl, E, Ex, hb⟩ := hp.new)
                    refine hK.out _ _ (HS.out _ (HB.then (Only.of_below hb))) ?_
                    clear hK K
                    try simp only [Act.put, List.setIfInBounds_toArray, List.set_cons_zero, List.set_cons_succ]
                    replace HB := HB.then (Only.of_below hb)
                    replace R := R.below hb
                    replace V := V.below hb
                    have z5 := hb.size
                    clear hb
                    refine wpAnyT_ready (rs := [9]) (by kernel_rfl) (by simp) ?_
                    refine AllReadyT.cons rfl (by decide) (fun K hK => ?_) ?_
                    · refine step_app8 rfl (.tmp 267) (.tmp 271) rfl R (by simp [Act.eval, Act.put]) _ _ _ _ _ (by simp [Act.eval, Act.put]) E.len E.rd E.nilc (by have h1 := HLL.out; simp only [List.length_append, be_length, hlen, lstL_len, List.length_cons, List.length_nil]; omega) ?_
                      intro pp6 nn6 cc6 u6 R' X' hO
                      have hZ := HB.size
                      have hB' := HB.trans hO (fun _ h => h) (fun k hk h => by rcases X k h with h | h; exact h; omega)
                      refine hK.out _ _ (HS.out _ hB') ?_
                      clear hK K
                      try simp only [Act.put, List.setIfInBounds_toArray, List.set_cons_zero, List.set_cons_succ]
                      have tV := V.lt
                      replace V := V.only hO (fun h => nV _ h rfl)
                      replace nV : ∀ k, owB pp6 nn6 cc6 k → k ≠ bV := fun k h => by rcases X' k h with h | h; exact nV k h; omega
                      replace X : ∀ k, owB pp6 nn6 cc6 k → owB p8 n8 c8 k ∨ W.heap.size ≤ k := fun k h => by rcases X' k h with h | h; exact X k h; exact .inr (by omega)
                      replace R := R'
                      replace HB := hB'
                      clear hB' R' X' hO hZ E Ex
                      refine wpAnyT_ready (rs := [11]) (by kernel_rfl) (by simp) ?_
                      refine AllReadyT.cons rfl (by decide) (fun K hK => ?_) ?_
                      · refine step_app8 rfl (.tmp 272) (.tmp 273) rfl R (by simp [Act.eval, Act.put]) (fun k => k = bV) (some ⟨bV, 0, none⟩) 2 2 [1, 0] (by simp [Act.eval, Act.put]) rfl (blk_rd V rfl) (fun h => by cases h) (by have h1 := HLL.out; simp only [List.length_append, be_length, hlen, lstL_len, List.length_cons, List.length_nil]; omega) ?_
                        intro pp7 nn7 cc7 u7 R' X' hO
                        have hZ := HB.size
                        have hB' := HB.trans hO (fun _ h => h) (fun k hk h => by rcases X k h with h | h; exact h; omega)
                        refine hK.out _ _ (HS.out _ hB') ?_
                        clear hK K
                        try simp only [Act.put, List.setIfInBounds_toArray, List.set_cons_zero, List.set_cons_succ]
                        replace X : ∀ k, owB pp7 nn7 cc7 k → owB p8 n8 c8 k ∨ W.heap.size ≤ k := fun k h => by rcases X' k h with h | h; exact X k h; exact .inr (by omega)
                        replace R := R'
                        replace HB := hB'
                        clear hB' R' X' hO hZ V nV lV
                        refine wpAnyT_tail (by kernel_rfl) ?_
                        have HZ := Lib.hid (And.intro R (And.intro X HB))
                        have KE := Lib.hid (And.intro (K8.out.1.only HB (fun k h1 h2 => by have h3 := LT7.out k h1; have h4 := HX8.out k h2; omega)) (K8.out.2.only hwN HB (fun k hk => by have := HX8.out k hk; omega)))
                        have hz9 := HB.size
                        clear R X HB HS HRD1 HRD2
                        go_wp2_with (first
                          | (go_at_call 41; refine (vec2_c _ r7p r7n r7c (eC7 s) _ KE.out.1.rd KE.out.1.nilc (by have := HL.out.1; omega) KE.out.1.len).mono ?_; intro e w9 hp; obtain ⟨q9, m9, k9, rfl, h1, h2, h3⟩ := hp.new; have H9 := Lib.hid (And.intro h1 (And.intro h2 h3)); have hz10 := h3.size; clear h1 h2 h3 hp)
                          | (at_builtin; refine wpList_app8 rfl _ _ rfl (HZ.out.1.below H9.out.2.2) rfl _ q9 m9 k9 _ rfl H9.out.1.len H9.out.1.rd H9.out.1.nilc (by have h1 := HLL.out; have h2 := HL.out.1; simp only [List.length_append, be_length, hlen, lstL_len, List.length_cons, List.length_nil]; omega) ?_; intro p10 n10 c10 w10 h1 h2 h3; have H10 := Lib.hid (And.intro h1 (And.intro h2 h3)); clear h1 h2 h3))
                        go_ret2
                        have hbe := KE.out.2.k.bel
                        have hr := H10.out.1
                        rw [← HML.out, ← H11.out.1, ← KE.out.1.len] at hr
                        have hXw : ∀ k, owB _ _ _ k → w.heap.size ≤ k := fun k hk => by rcases HZ.out.2.1 k hk with h | h; (have := HX8.out k h; omega); omega
                        refine ⟨.inr ⟨HK3.out.symm, p10, n10, c10, rfl, hr, fun k hk => ?_⟩, below_only (hbe.trans (H9.out.2.2.mono hbe.size)) (Nat.le_trans hbe.size hz10) H10.out.2.2 (fun k hk e => by have := HZ.out.2.1 k e; rcases this with h | h; (have := HX8.out k h; omega); omega)⟩
                        rcases H10.out.2.1 k hk with h | h
                        · exact hXw k h
                        · have := hbe.size; omega
                      exact AllReadyT.nil
                    exact AllReadyT.nil
                  exact AllReadyT.nil
                exact AllReadyT.nil
              exact AllReadyT.nil
            exact AllReadyT.nil
          exact AllReadyT.nil
          -- R33>>
          -- ENDING


end Go.Proofs.Ytegmimnhkohaoaa
