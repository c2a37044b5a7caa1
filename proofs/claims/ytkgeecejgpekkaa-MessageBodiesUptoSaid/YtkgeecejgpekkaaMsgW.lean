/-
  The contracts of message's writer: put, uint, vector, end. Conditions: at most 2 to the 47th bytes together.
-/
import Derived.Test.YtkgeecejgpekkaaStr
import Derived.Test.YtkgeecejgpekkaaBack
import Derived.Deep.CutBlock
import Derived.Deep.CutRange
namespace Go.Proofs.Ytkgeecejgpekkaa
open Go.RowKit Go.Kx
set_option linter.unusedVariables false
set_option linter.unusedSimpArgs false

theorem putOk_cast {N V : Nat} (h : putOk (N : Int) (V : Int)) : (1 ≤ V ∧ V ≤ 4) ∧ N < 256 ^ V := by
  obtain ⟨h1, h2, h3⟩ := h
  rw [Int.toNat_natCast] at h3
  refine ⟨by omega, ?_⟩
  have e : ((256 : Int) ^ V) = ((256 ^ V : Nat) : Int) := by rw [Int.natCast_pow]; rfl
  rw [e] at h3
  exact Int.ofNat_lt.1 h3
/-- A writer in block r: the bytes that are put yet; is it bad? -/
abbrev WS := List UInt8 × Bool
structure Wr (w : World) (r : Nat) (x : WS) : Prop where
  ex : ∃ p n c, Box2 w r 69 (.slice p n c) (.bool x.2) ∧ x.1.length = n ∧ Rd w (· ≠ r) p x.1 ∧ (p = none → c = 0)
theorem Wr.lt {w : World} {r : Nat} {x : WS} (h : Wr w r x) : r < w.heap.size := by obtain ⟨p, n, c, hb, _⟩ := h.ex; exact hb.lt
theorem Wr.below {w w' : World} {r : Nat} {x : WS} (h : Wr w r x) (hb : Below w.heap.size w w') : Wr w' r x := by
  obtain ⟨p, n, c, h1, h2, h3, h4⟩ := h.ex
  exact ⟨p, n, c, h1.below hb, h2, h3.below hb, h4⟩
theorem Wr.new (w : World) (b : Bool) : Wr (w.alloc (.cells #[.slice none 0 0, .bool b] 69)) w.heap.size ([], b) :=
  ⟨none, 0, 0, Box2.new _ _ _ _, rfl, Rd.nil _ _ _, fun _ => rfl⟩

/-- What puts more of a number, of bytes. -/
def wU (x : WS) (n W : Int) : WS := if putOk n W then (x.1 ++ be n.toNat W.toNat, x.2) else ([], true)
def wV (x : WS) (v : List UInt8) (W l m : Int) : WS := if putOk (v.length : Int) W then (x.1 ++ (be v.length W.toNat ++ v), x.2 || !(decide (l ≤ (v.length : Int)) && decide ((v.length : Int) ≤ m))) else ([], true)

theorem wput_c (r : Nat) (p : Option Addr) (n c : Nat) (ok bad bb : Bool) (bv : Value) (w : World) (hb : Box2 w r 69 bv (.bool bad)) (hbb : (bad || !ok || p.isNone) = bb) :
    Calls Try.prog 41 #[rp r, .slice p n c, .bool ok] w fun e w' => e = .returned ret0 ∧ w' = (w.setCell ⟨r, 1, none⟩ (.bool bb)).setCell ⟨r, 0, none⟩ (.slice p n c) := by
  subst hbb
  have q := qbytes
  have c0 := hb.c0
  have c1 := hb.c1
  have f0 := hb.fr 0
  have f1 := hb.fr 1
  have hs := hb.set1 (.bool (bad || !ok || p.isNone))
  have d0 := hs.c0
  have g0 := hs.fr 0
  cases bad <;> cases ok <;> cases p <;> (
    go_enter Try.func41, Try.ntmps41
    go_wp2
    go_end0
    exact ⟨rfl, rfl⟩)

/-- What a call leaves of a writer. -/
def WrR (w : World) (r : Nat) (y : WS) (e : Ending) (w' : World) : Prop := e = .returned ret0 ∧ Wr w' r y ∧ Only (· = r) w w'
theorem wr_put {w w1 : World} {r : Nat} {bv : Value} {bad b : Bool} {p : Option Addr} {n c : Nat} {l : List UInt8} (hb : Box2 w r 69 bv (.bool bad)) (h1 : Below w.heap.size w w1) (hR : Rd w1 (· ≠ r) p l) (hn : l.length = n) (hp : p = none → c = 0) :
    Wr ((w1.setCell ⟨r, 1, none⟩ (.bool b)).setCell ⟨r, 0, none⟩ (.slice p n c)) r (l, b) ∧ Only (· = r) w ((w1.setCell ⟨r, 1, none⟩ (.bool b)).setCell ⟨r, 0, none⟩ (.slice p n c)) := by
  have hb1 := hb.below h1
  have ho : Only (· = r) w1 ((w1.setCell ⟨r, 1, none⟩ (.bool b)).setCell ⟨r, 0, none⟩ (.slice p n c)) := ((Only.refl (fun k => k = r) w1).setCell _ _ (.inl rfl)).setCell _ _ (.inl rfl)
  exact ⟨⟨p, n, c, (hb1.set1 _).set0 _, hn, hR.only ho (fun k hk e => hk e), hp⟩, (Only.of_below h1).then ho⟩

theorem wuint_c (r : Nat) (x : WS) (n W : Int) (w : World) (hr : Wr w r x) (hl : x.1.length + 4 ≤ 140737488355328) : Calls Try.prog 30 #[rp r, .int .i64 n, .int .i64 W] w (WrR w r (wU x n W)) := by
  obtain ⟨p, m, c, hb, hm, hR, hp⟩ := hr.ex
  have c0 := hb.c0
  have HB := Lib.hid (And.intro hb (And.intro hm (And.intro hR hp)))
  have hlt := hr.lt
  clear hm hR hp hr hb
  by_cases hk : putOk n W
  · obtain ⟨N, rfl⟩ : ∃ N : Nat, n = N := ⟨n.toNat, by have := hk.2.1; omega⟩
    obtain ⟨V, rfl⟩ : ∃ V : Nat, W = V := ⟨W.toNat, by have := hk.1; omega⟩
    have hy : wU x (N : Int) (V : Int) = (x.1 ++ be N V, x.2) := by unfold wU; rw [if_pos hk]; simp
    have HY := Lib.hid hy
    have HK := Lib.hid hk
    clear hy hk
    go_enter Try.func30, Try.ntmps30
    go_wp2_with (first
      | (go_at_call 20; refine (put_yes _ p m c x.1 N V _ HB.out.2.2.1 HB.out.2.2.2 hl HB.out.2.1 (putOk_cast HK.out).1 (putOk_cast HK.out).2).mono ?_; rintro e w1 ⟨g, k, c1, rfl, l1, z1, z2, y1, y2, o1, b1⟩)
      | (go_at_call 41; refine (wput_c r _ _ _ true x.2 x.2 _ _ (HB.out.1.below b1) (by simp)).mono ?_; rintro e w2 ⟨rfl, rfl⟩))
    go_end0
    rw [HY.out]
    obtain ⟨h1, h2⟩ := wr_put (b := x.2) HB.out.1 b1 (o1.rd.mono (fun q _ hq => by show ¬ q = r; omega)) l1 (fun h => by cases h)
    exact ⟨rfl, h1, h2⟩
  · have hy : wU x n W = ([], true) := by unfold wU; rw [if_neg hk]
    have HY := Lib.hid hy
    have HK := Lib.hid hk
    clear hy hk
    go_enter Try.func30, Try.ntmps30
    go_wp2_with (first
      | (go_at_call 20; refine (put_no _ n W _ HK.out).mono ?_; rintro e w1 ⟨rfl, b1⟩)
      | (go_at_call 41; refine (wput_c r _ _ _ true x.2 true _ _ (HB.out.1.below b1) (by simp)).mono ?_; rintro e w2 ⟨rfl, rfl⟩))
    go_end0
    rw [HY.out]
    obtain ⟨h1, h2⟩ := wr_put (b := true) HB.out.1 b1 (Rd.nil _ _ none) (n := 0) (c := 0) rfl (fun _ => rfl)
    exact ⟨rfl, h1, h2⟩

theorem wvec_c (r : Nat) (x : WS) (S : Nat → Prop) (p2 : Option Addr) (n2 c2 : Nat) (v : List UInt8) (W l u : Int) (w : World) (hr : Wr w r x) (hv : v.length = n2) (hR2 : Rd w S p2 v) (hp2 : p2 = none → c2 = 0) (hl : x.1.length + 4 + v.length ≤ 140737488355328) :
    Calls Try.prog 29 #[rp r, .slice p2 n2 c2, .int .i64 W, .int .i64 l, .int .i64 u] w (WrR w r (wV x v W l u)) := by
  obtain ⟨p, m, c, hb, hm, hR, hp⟩ := hr.ex
  have c0 := hb.c0
  have HB := Lib.hid (And.intro hb (And.intro hm (And.intro hR (And.intro hp (And.intro hR2 hp2)))))
  subst hv
  have hlt := hr.lt
  clear hm hR hp hr hb hR2 hp2
  obtain ⟨b1, hb1⟩ : ∃ b, b = decide (l ≤ (v.length : Int)) := ⟨_, rfl⟩
  obtain ⟨b2, hb2⟩ : ∃ b, b = decide ((v.length : Int) ≤ u) := ⟨_, rfl⟩
  have HBB := Lib.hid (And.intro hb1 hb2)
  by_cases hk : putOk (v.length : Int) W
  · obtain ⟨V, rfl⟩ : ∃ V : Nat, W = V := ⟨W.toNat, by have := hk.1; omega⟩
    have hy : wV x v (V : Int) l u = (x.1 ++ be v.length V ++ v, x.2 || !(b1 && b2)) := by unfold wV; rw [if_pos hk, hb1, hb2]; simp
    have HY := Lib.hid hy
    have HK := Lib.hid hk
    clear hy hk
    cases b1 <;> cases b2 <;> (
      have hb1' := hb1.symm
      have hb2' := hb2.symm
      clear hb1 hb2
      go_enter Try.func29, Try.ntmps29
      go_wp2_with (first
        | (go_at_call 21; refine (vec_yes _ S p p2 m c v.length c2 x.1 v V _ HB.out.2.2.1 HB.out.2.2.2.1 HB.out.2.1 HB.out.2.2.2.2.1 HB.out.2.2.2.2.2 rfl hl (putOk_cast HK.out).1 (putOk_cast HK.out).2).mono ?_; rintro e w1 ⟨g, k, c1, rfl, l1, z1, z2, y1, y2, o1, b1⟩)
        | (go_at_call 41; refine (wput_c r _ _ _ _ x.2 _ _ _ (HB.out.1.below b1) rfl).mono ?_; rintro e w2 ⟨rfl, rfl⟩))
      go_end0
      rw [HY.out]
      obtain ⟨h1, h2⟩ := wr_put (b := _) HB.out.1 b1 (o1.rd.mono (fun q _ hq => by show ¬ q = r; omega)) l1 (fun h => by cases h)
      first
        | exact ⟨rfl, h1, h2⟩
        | exact ⟨rfl, by simpa using h1, by simpa using h2⟩)
  · have hy : wV x v W l u = ([], true) := by unfold wV; rw [if_neg hk]
    have HY := Lib.hid hy
    have HK := Lib.hid hk
    clear hy hk
    cases b1 <;> cases b2 <;> (
      have hb1' := hb1.symm
      have hb2' := hb2.symm
      clear hb1 hb2
      go_enter Try.func29, Try.ntmps29
      go_wp2_with (first
        | (go_at_call 21; refine (vec_no _ p2 _ c2 W _ HK.out).mono ?_; rintro e w1 ⟨rfl, b1⟩)
        | (go_at_call 41; refine (wput_c r _ _ _ _ x.2 true _ _ (HB.out.1.below b1) (by simp)).mono ?_; rintro e w2 ⟨rfl, rfl⟩))
      go_end0
      rw [HY.out]
      obtain ⟨h1, h2⟩ := wr_put (b := true) HB.out.1 b1 (Rd.nil _ _ none) (n := 0) (c := 0) rfl (fun _ => rfl)
      exact ⟨rfl, h1, h2⟩)

/-- What end tells. -/
def EndR (w : World) (r : Nat) (x : WS) (e : Ending) (w' : World) : Prop := w = w' ∧ ((x.2 = true ∧ e = .returned (.tuple #[.slice none 0 0, .int .i64 1])) ∨ (x.2 = false ∧ ∃ p n c, e = .returned (.tuple #[.slice p n c, .int .i64 0]) ∧ x.1.length = n ∧ Rd w (· ≠ r) p x.1 ∧ (p = none → c = 0)))
theorem wend_c (r : Nat) (x : WS) (w : World) (hr : Wr w r x) : Calls Try.prog 31 #[rp r] w (EndR w r x) := by
  obtain ⟨p, m, c, hb, hm, hR, hp⟩ := hr.ex
  obtain ⟨l, bad⟩ := x
  have c0 := hb.c0
  have c1 := hb.c1
  have HB := Lib.hid (And.intro hm (And.intro hR hp))
  clear hm hR hp hr hb
  cases bad
  · go_enter Try.func31, Try.ntmps31
    go_wp2
    go_ret2
    exact ⟨rfl, .inr ⟨rfl, p, m, c, rfl, HB.out⟩⟩
  · go_enter Try.func31, Try.ntmps31
    go_wp2
    go_ret2
    exact ⟨rfl, .inl ⟨rfl, rfl⟩⟩
end Go.Proofs.Ytkgeecejgpekkaa
