/-
  The contracts of package hello's writer: must, uint, vector, end. Conditions: at most 2 to the 46th bytes stand in it.
-/
import Derived.Test.YtegmimnhkohaoaaStr
import Derived.Test.YtegmimnhkohaoaaBack
import Derived.Test.YtegmimnhkohaoaaAppB
import Derived.Deep.CutBlock
import Derived.Deep.CutRange
namespace Go.Proofs.Ytegmimnhkohaoaa
open Go.RowKit Go.Kx
set_option linter.unusedVariables false
set_option linter.unusedSimpArgs false

theorem putOk_cast {N V : Nat} (h : putOk (N : Int) (V : Int)) : (1 ≤ V ∧ V ≤ 4) ∧ N < 256 ^ V := by
  obtain ⟨h1, h2, h3⟩ := h
  rw [Int.toNat_natCast] at h3
  refine ⟨by omega, ?_⟩
  have e : ((256 : Int) ^ V) = ((256 ^ V : Nat) : Int) := by rw [Int.natCast_pow]; rfl
  rw [e] at h3
  exact Int.ofNat_lt.1 h3
/-- A writer in block r: the bytes that are put yet; is it bad? -/
abbrev WS := List UInt8 × Bool
structure Wr (w : World) (r : Nat) (x : WS) : Prop where
  ex : ∃ g p n c, Box2 w r 80 (.slice p n c) (.bool x.2) ∧ x.1.length = n ∧ r < g ∧ Own w g (.slice p n c) x.1
theorem Wr.lt {w : World} {r : Nat} {x : WS} (h : Wr w r x) : r < w.heap.size := by obtain ⟨g, p, n, c, hb, _⟩ := h.ex; exact hb.lt
theorem Wr.below {w w' : World} {r : Nat} {x : WS} (h : Wr w r x) (hb : Below w.heap.size w w') : Wr w' r x := by
  obtain ⟨g, p, n, c, h1, h2, h3, h4⟩ := h.ex
  exact ⟨g, p, n, c, h1.below hb, h2, h3, Own.keep h4 hb⟩
theorem Wr.new (w : World) : Wr (w.alloc (.cells #[.slice none 0 0, .bool false] 80)) w.heap.size ([], false) :=
  ⟨w.heap.size + 1, none, 0, 0, Box2.new _ _ _ _, rfl, by omega, Own.nil _ _⟩

/-- What puts more of a number, of bytes; what notes that something can't be. -/
def wU (x : WS) (n W : Int) : WS := if putOk n W then (x.1 ++ be n.toNat W.toNat, x.2) else ([], true)
def wV (x : WS) (v : List UInt8) (W l m : Int) : WS := if putOk (v.length : Int) W then (x.1 ++ (be v.length W.toNat ++ v), x.2 || !(decide (l ≤ (v.length : Int)) && decide ((v.length : Int) ≤ m))) else ([], true)
def wM (x : WS) (ok : Bool) : WS := (x.1, x.2 || !ok)
theorem wU_len (x : WS) (n W : Int) (h : W ≤ 4) : (wU x n W).1.length ≤ x.1.length + 4 := by
  unfold wU
  split
  · simp [be_length]; omega
  · simp
theorem wV_len (x : WS) (v : List UInt8) (W l m : Int) (h : W ≤ 2) : (wV x v W l m).1.length ≤ x.1.length + 65537 := by
  unfold wV
  split
  · rename_i hk
    obtain ⟨N, rfl⟩ : ∃ N : Nat, W = N := ⟨W.toNat, by have := hk.1; omega⟩
    have h2 := (putOk_cast hk).2
    have h3 : 256 ^ N ≤ 256 ^ 2 := Nat.pow_le_pow_right (by decide) (by omega)
    simp [be_length]; omega
  · simp

theorem wmust_c (r : Nat) (ok bad bb : Bool) (bv : Value) (w : World) (hb : Box2 w r 80 bv (.bool bad)) (hbb : (bad || !ok) = bb) :
    Calls Try.prog 27 #[rp r, .bool ok] w fun e w' => e = .returned ret0 ∧ w' = w.setCell ⟨r, 1, none⟩ (.bool bb) := by
  subst hbb
  have c0 := hb.c0
  have c1 := hb.c1
  have f1 := hb.fr 1
  cases bad <;> cases ok <;> (
    go_enter Try.func27, Try.ntmps27
    go_wp2
    go_end0
    exact ⟨rfl, rfl⟩)

/-- What a call leaves of a writer. -/
def WrR (w : World) (r : Nat) (y : WS) (e : Ending) (w' : World) : Prop := e = .returned ret0 ∧ Wr w' r y ∧ Only (· = r) w w'

theorem wr_must (r : Nat) (ok : Bool) (x : WS) (w : World) (hr : Wr w r x) : Calls Try.prog 27 #[rp r, .bool ok] w (WrR w r (wM x ok)) := by
  obtain ⟨g, p, n, c, h1, h2, h3, h4⟩ := hr.ex
  refine (wmust_c r ok x.2 _ _ w h1 rfl).mono ?_
  rintro e w' ⟨rfl, rfl⟩
  have ho : Only (· = r) w (w.setCell ⟨r, 1, none⟩ (.bool (x.2 || !ok))) := (Only.refl (fun k => k = r) w).setCell _ _ (.inl rfl)
  exact ⟨rfl, ⟨g, p, n, c, h1.set1 _, h2, h3, h4.only ho (by omega)⟩, ho⟩

theorem wr_put {w w1 : World} {r g : Nat} {bv : Value} {bad b : Bool} {p : Option Addr} {n c : Nat} {l : List UInt8} (hb : Box2 w r 80 bv (.bool bad)) (h1 : Below w.heap.size w w1) (hg : r < g) (hO : Own w1 g (.slice p n c) l) (hn : l.length = n) :
    Wr ((w1.setCell ⟨r, 1, none⟩ (.bool b)).setCell ⟨r, 0, none⟩ (.slice p n c)) r (l, b) ∧ Only (· = r) w ((w1.setCell ⟨r, 1, none⟩ (.bool b)).setCell ⟨r, 0, none⟩ (.slice p n c)) := by
  have hb1 := hb.below h1
  have ho : Only (· = r) w1 ((w1.setCell ⟨r, 1, none⟩ (.bool b)).setCell ⟨r, 0, none⟩ (.slice p n c)) := ((Only.refl (fun k => k = r) w1).setCell _ _ (.inl rfl)).setCell _ _ (.inl rfl)
  exact ⟨⟨g, p, n, c, (hb1.set1 _).set0 _, hn, hg, hO.only ho (by omega)⟩, (Only.of_below h1).then ho⟩

theorem wuint_c (r : Nat) (x : WS) (n W : Int) (w : World) (hr : Wr w r x) (hl : x.1.length ≤ 70368744177664) : Calls Try.prog 30 #[rp r, .int .i64 n, .int .i64 W] w (WrR w r (wU x n W)) := by
  have q := qbytes
  obtain ⟨g0, p, m, c, hb, hm, hg, hO⟩ := hr.ex
  have c0 := hb.c0
  have hpc : p = none → c = 0 := by obtain ⟨p', c', he, _, _, _, hp, _⟩ := hO.form; cases he; exact hp
  have HB := Lib.hid (And.intro hb (And.intro hm (And.intro hO.rd hpc)))
  have hlt := hr.lt
  clear hm hO hr hb hpc
  by_cases hk : putOk n W
  · obtain ⟨N, rfl⟩ : ∃ N : Nat, n = N := ⟨n.toNat, by have := hk.2.1; omega⟩
    obtain ⟨V, rfl⟩ : ∃ V : Nat, W = V := ⟨W.toNat, by have := hk.1; omega⟩
    have hy : wU x (N : Int) (V : Int) = (x.1 ++ be N V, x.2) := by unfold wU; rw [if_pos hk]; simp
    have HY := Lib.hid hy
    have HK := Lib.hid hk
    clear hy hk
    go_enter Try.func30, Try.ntmps30
    go_wp2_with (first
      | (go_at_call 67; refine (put_yes _ p m c x.1 N V _ HB.out.2.2.1 HB.out.2.2.2 (by omega) HB.out.2.1 (putOk_cast HK.out).1 (putOk_cast HK.out).2).mono ?_; rintro e w1 ⟨g, k, c1, rfl, l1, z1, z2, y1, y2, o1, b1⟩)
      | (go_at_call 27; refine (wmust_c r true x.2 x.2 _ _ (HB.out.1.below b1) (by simp)).mono ?_; rintro e w2 ⟨rfl, rfl⟩; have f0 := ((HB.out.1.below b1).set1 (.bool x.2)).fr 0; have d0 := ((HB.out.1.below b1).set1 (.bool x.2)).c0))
    go_end0
    rw [HY.out]
    obtain ⟨h1, h2⟩ := wr_put (b := x.2) HB.out.1 b1 (by omega) o1 l1
    exact ⟨rfl, h1, h2⟩
  · have hy : wU x n W = ([], true) := by unfold wU; rw [if_neg hk]
    have HY := Lib.hid hy
    have HK := Lib.hid hk
    clear hy hk
    go_enter Try.func30, Try.ntmps30
    go_wp2_with (first
      | (go_at_call 67; refine (put_no _ n W _ HK.out).mono ?_; rintro e w1 ⟨rfl, b1⟩)
      | (go_at_call 27; refine (wmust_c r _ x.2 true _ _ (HB.out.1.below b1) (by simp)).mono ?_; rintro e w2 ⟨rfl, rfl⟩; have f0 := ((HB.out.1.below b1).set1 (.bool true)).fr 0; have d0 := ((HB.out.1.below b1).set1 (.bool true)).c0))
    go_end0
    rw [HY.out]
    obtain ⟨h1, h2⟩ := wr_put (b := true) (g := r + 1) HB.out.1 b1 (by omega) (Own.nil _ _) (n := 0) (c := 0) rfl
    exact ⟨rfl, h1, h2⟩

set_option maxHeartbeats 4000000 in
set_option maxRecDepth 100000 in
theorem wvec_c (r : Nat) (x : WS) (p2 : Option Addr) (n2 c2 : Nat) (v : List UInt8) (W l u : Int) (w : World) (hr : Wr w r x) (hv : v.length = n2) (hR2 : Rd w (· ≠ r) p2 v) (hp2 : p2 = none → c2 = 0) (hW2 : W ≤ 2) (hl : x.1.length ≤ 70368744177664) :
    Calls Try.prog 31 #[rp r, .slice p2 n2 c2, .int .i64 W, .int .i64 l, .int .i64 u] w (WrR w r (wV x v W l u)) := by
  have q := qbytes
  obtain ⟨g0, p, m, c, hb, hm, hg, hO⟩ := hr.ex
  have hpc : p = none → c = 0 := by obtain ⟨p', c', he, _, _, _, hp, _⟩ := hO.form; cases he; exact hp
  subst hv
  have hlt := hr.lt
  obtain ⟨b1, hb1⟩ : ∃ b, b = decide (l ≤ (v.length : Int)) := ⟨_, rfl⟩
  obtain ⟨b2, hb2⟩ : ∃ b, b = decide ((v.length : Int) ≤ u) := ⟨_, rfl⟩
  obtain ⟨bb, hbb⟩ : ∃ b, b = (x.2 || !(b1 && b2)) := ⟨_, rfl⟩
  have ho1 : Only (· = r) w (w.setCell ⟨r, 1, none⟩ (.bool bb)) := (Only.refl (fun k => k = r) w).setCell _ _ (.inl rfl)
  have hR1 := hR2.only ho1 (fun k hk e => hk e)
  have hO1 := hO.only ho1 (by omega)
  have hB1 := hb.set1 (.bool bb)
  have c1 := hB1.c0
  have hlt1 : r < (w.setCell ⟨r, 1, none⟩ (.bool bb)).heap.size := hB1.lt
  have HB := Lib.hid (And.intro hB1 (And.intro hm (And.intro hO1.rd (And.intro hpc (And.intro hR1 (And.intro hp2 (And.intro hb ho1)))))))
  have HBB := Lib.hid (And.intro hb1 (And.intro hb2 hbb))
  have hmu : ∀ e1 e2 : Bool, e1 = b1 → e2 = b2 → (x.2 || !(e1 && e2)) = bb := by intro e1 e2 h1 h2; rw [h1, h2, hbb]
  have HMU := Lib.hid hmu
  clear hm hO hr hb hR2 hp2 hpc hR1 hO1 hB1 ho1 hmu
  have hfin : ∀ (g : Nat) (b : Bool) (p : Option Addr) (n c : Nat) (l : List UInt8) (w1 : World) (h1 : Below (w.setCell ⟨r, 1, none⟩ (.bool bb)).heap.size (w.setCell ⟨r, 1, none⟩ (.bool bb)) w1) (hg : r < g) (hO : Own w1 g (.slice p n c) l) (hn : l.length = n),
      Wr ((w1.setCell ⟨r, 1, none⟩ (.bool b)).setCell ⟨r, 0, none⟩ (.slice p n c)) r (l, b) ∧ Only (· = r) w ((w1.setCell ⟨r, 1, none⟩ (.bool b)).setCell ⟨r, 0, none⟩ (.slice p n c)) := by
    intro g b p n c l w1 h1 hg hO hn
    obtain ⟨k1, k2⟩ := wr_put (b := b) HB.out.1 h1 hg hO hn
    exact ⟨k1, HB.out.2.2.2.2.2.2.2.then k2⟩
  have HF := Lib.hid hfin
  clear hfin
  by_cases hk : putOk (v.length : Int) W
  · obtain ⟨V, rfl⟩ : ∃ V : Nat, W = V := ⟨W.toNat, by have := hk.1; omega⟩
    have hy : wV x v (V : Int) l u = (x.1 ++ be v.length V ++ v, bb) := by unfold wV; rw [if_pos hk, hbb, hb1, hb2]; simp
    have hvl : v.length ≤ 65536 := by
      have h2 := (putOk_cast hk).2
      have h3 : 256 ^ V ≤ 256 ^ 2 := Nat.pow_le_pow_right (by decide) (by omega)
      omega
    have HY := Lib.hid hy
    have HK := Lib.hid hk
    clear hy hk hbb
    cases b1 <;> cases b2 <;> (
      have hb1' := hb1.symm
      have hb2' := hb2.symm
      clear hb1 hb2
      go_enter Try.func31, Try.ntmps31
      go_wp2_with (first
        | (go_at_call 68; refine (vec_yes _ (· ≠ r) p p2 m c v.length c2 x.1 v V _ HB.out.2.2.1 HB.out.2.2.2.1 HB.out.2.1 HB.out.2.2.2.2.1 HB.out.2.2.2.2.2.1 rfl (by omega) (putOk_cast HK.out).1 (putOk_cast HK.out).2).mono ?_; rintro e w1 ⟨g, k, c1, rfl, l1, z1, z2, y1, y2, o1, b1⟩)
        | (go_at_call 27; have hq := b1; refine (wmust_c r true bb bb _ _ (HB.out.1.below b1) (by simp)).mono ?_; rintro e w2 ⟨rfl, rfl⟩; have f0 := ((HB.out.1.below b1).set1 (.bool bb)).fr 0; have d0 := ((HB.out.1.below b1).set1 (.bool bb)).c0)
        | (go_at_call 27; refine (wmust_c r _ x.2 bb _ _ HB.out.2.2.2.2.2.2.1 (by exact HMU.out _ _ rfl rfl)).mono ?_; rintro e w2 ⟨rfl, rfl⟩))
      go_end0
      rw [HY.out]
      obtain ⟨h1, h2⟩ := HF.out _ bb _ _ _ _ _ b1 (by omega) o1 l1
      exact ⟨rfl, h1, h2⟩)
  · have hy : wV x v W l u = ([], true) := by unfold wV; rw [if_neg hk]
    have HY := Lib.hid hy
    have HK := Lib.hid hk
    clear hy hk hbb
    cases b1 <;> cases b2 <;> (
      have hb1' := hb1.symm
      have hb2' := hb2.symm
      clear hb1 hb2
      go_enter Try.func31, Try.ntmps31
      go_wp2_with (first
        | (go_at_call 68; refine (vec_no _ p2 _ c2 W _ HK.out).mono ?_; rintro e w1 ⟨rfl, b1⟩)
        | (go_at_call 27; have hq := b1; refine (wmust_c r _ bb true _ _ (HB.out.1.below b1) (by simp)).mono ?_; rintro e w2 ⟨rfl, rfl⟩; have f0 := ((HB.out.1.below b1).set1 (.bool true)).fr 0; have d0 := ((HB.out.1.below b1).set1 (.bool true)).c0)
        | (go_at_call 27; refine (wmust_c r _ x.2 bb _ _ HB.out.2.2.2.2.2.2.1 (by exact HMU.out _ _ rfl rfl)).mono ?_; rintro e w2 ⟨rfl, rfl⟩))
      go_end0
      rw [HY.out]
      obtain ⟨h1, h2⟩ := HF.out (r + 1) true none 0 0 [] _ b1 (by omega) (Own.nil _ _) rfl
      exact ⟨rfl, h1, h2⟩)

/-- What end tells. -/
def EndR (w : World) (r : Nat) (x : WS) (e : Ending) (w' : World) : Prop := w = w' ∧ ((x.2 = true ∧ e = .returned (.tuple #[.slice none 0 0, .int .i64 1])) ∨ (x.2 = false ∧ ∃ g p n c, e = .returned (.tuple #[.slice p n c, .int .i64 0]) ∧ x.1.length = n ∧ r < g ∧ Own w g (.slice p n c) x.1))
theorem wend_c (r : Nat) (x : WS) (w : World) (hr : Wr w r x) : Calls Try.prog 35 #[rp r] w (EndR w r x) := by
  obtain ⟨g, p, m, c, hb, hm, hg, hO⟩ := hr.ex
  obtain ⟨l, bad⟩ := x
  have c0 := hb.c0
  have c1 := hb.c1
  have HB := Lib.hid (And.intro hm (And.intro hg hO))
  clear hm hg hO hr hb
  cases bad
  · go_enter Try.func35, Try.ntmps35
    go_wp2
    go_ret2
    exact ⟨rfl, .inr ⟨rfl, g, p, m, c, rfl, HB.out⟩⟩
  · go_enter Try.func35, Try.ntmps35
    go_wp2
    go_ret2
    exact ⟨rfl, .inl ⟨rfl, rfl⟩⟩
end Go.Proofs.Ytegmimnhkohaoaa
