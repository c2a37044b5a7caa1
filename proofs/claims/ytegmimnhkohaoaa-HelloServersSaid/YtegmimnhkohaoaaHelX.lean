/-
  The contracts of package hello's writer's nested, part and share. Conditions: at most 2 to the 46th bytes stand in it.
-/
import Derived.Test.YtegmimnhkohaoaaHelW
namespace Go.Proofs.Ytegmimnhkohaoaa
open Go.RowKit Go.Kx
set_option linter.unusedVariables false
set_option linter.unusedSimpArgs false

/-- What a closure does that puts parts into a writer that is new. -/
def Known (k : FuncId) : Prop := ∀ (args : Array Value) (w : World), (callFunc k args).run Try.prog w = .ok (.enter k args) w
def Puts (w : World) (k : FuncId) (cap : Value) (y : WS) : Prop := Known k ∧ ∀ (h : Nat) (w' : World), w.heap.size ≤ h → Below w.heap.size w w' → Wr w' h ([], false) → Calls Try.prog k #[rp h, cap] w' (WrR w' h y)
/-- What nested, part make of it. -/
def wN (x y : WS) (W : Int) : WS := wV (wM x (!y.2)) y.1 W 0 65535
def wP (x : WS) (kind : Int) (there : Bool) (y : WS) : WS := if there then wV (wU (wM x (!y.2)) kind 2) y.1 2 0 65535 else x

set_option maxHeartbeats 4000000 in
set_option maxRecDepth 100000 in
theorem wnested_c (r : Nat) (x y : WS) (W : Int) (k : FuncId) (cap : Value) (w : World) (hr : Wr w r x) (hW : W ≤ 2) (hl : x.1.length ≤ 70368744177664) (hf : Puts w k cap y) :
    Calls Try.prog 32 #[rp r, .int .i64 W, .func (.func k) #[] #[cap]] w (WrR w r (wN x y W)) := by
  have hlt := hr.lt
  have hW0 := Wr.new w
  have hB0 : Below w.heap.size w (w.alloc (.cells #[.slice none 0 0, .bool false] 80)) := (Below.refl _ _).alloc (Nat.le_refl _) _
  have hkn := hf.1
  unfold Known at hkn
  have HF := Lib.hid (And.intro hf.2 (And.intro hW0 (And.intro hB0 hr)))
  clear hf hW0 hB0 hr
  go_enter Try.func32, Try.ntmps32
  go_wp2_with fail
  refine (HF.out.1 w.heap.size _ (Nat.le_refl _) HF.out.2.2.1 HF.out.2.1).mono ?_
  rintro e w1 ⟨rfl, hY1, ho1⟩
  have hB1 : Below w.heap.size w w1 := below_only HF.out.2.2.1 HF.out.2.2.1.size ho1 (by intro k hk e; omega)
  have hX1 := HF.out.2.2.2.below hB1
  have HB1 := Lib.hid hB1
  clear hB1 ho1
  obtain ⟨g, p, n, c, hbx, hn, hg, hO⟩ := hY1.ex
  have d1 := hbx.c1
  have hpc : p = none → c = 0 := by obtain ⟨p', c', he, _, _, _, hp, _⟩ := hO.form; cases he; exact hp
  have HO := Lib.hid (And.intro hO (And.intro hn hpc))
  clear hO hn hpc
  go_wp2_with (first
    | (go_at_call 27; refine (wr_must r (!y.2) x _ hX1).mono ?_; rintro e w2 ⟨rfl, hX2, ho2⟩; have d0 := (hbx.only ho2 (by omega)).c0; have HX2 := Lib.hid (And.intro hX2 ho2); have hrd := (HO.out.1.only ho2 (by omega)).rd; have HRD := Lib.hid (hrd.mono (T := (· ≠ r)) (fun q _ hq => by omega)); clear hrd hX2 ho2)
    | (go_at_call 31; refine (wvec_c r (wM x (!y.2)) _ _ _ y.1 W 0 65535 _ HX2.out.1 HO.out.2.1 HRD.out HO.out.2.2 hW hl).mono ?_; rintro e w3 ⟨rfl, hX3, ho3⟩))
  go_end0
  exact ⟨rfl, hX3, ((Only.of_below HB1.out).then HX2.out.2).then ho3⟩

set_option maxHeartbeats 4000000 in
set_option maxRecDepth 100000 in
theorem wpart_c (r : Nat) (x y : WS) (kind : Int) (there : Bool) (k : FuncId) (cap : Value) (w : World) (hr : Wr w r x) (hl : x.1.length + 4 ≤ 70368744177664) (hf : there = true → Puts w k cap y) :
    Calls Try.prog 69 #[rp r, .int .i64 kind, .bool there, .func (.func k) #[] #[cap]] w (WrR w r (wP x kind there y)) := by
  have hlt := hr.lt
  cases there
  · clear hf
    go_enter Try.func69, Try.ntmps69
    go_wp2
    go_end0
    exact ⟨rfl, hr, Only.refl _ _⟩
  · have hf := hf rfl
    have hW0 := Wr.new w
    have hB0 : Below w.heap.size w (w.alloc (.cells #[.slice none 0 0, .bool false] 80)) := (Below.refl _ _).alloc (Nat.le_refl _) _
    have hkn := hf.1
    unfold Known at hkn
    have hwu := wU_len (wM x (!y.2)) kind 2 (by decide)
    have hwm : (wM x (!y.2)).1.length = x.1.length := rfl
    have hy : wP x kind true y = wV (wU (wM x (!y.2)) kind 2) y.1 2 0 65535 := if_pos rfl
    have HY := Lib.hid hy
    clear hy
    have HF := Lib.hid (And.intro hf.2 (And.intro hW0 (And.intro hB0 hr)))
    have HL := Lib.hid (And.intro hwu hwm)
    clear hf hW0 hB0 hr hwu hwm
    go_enter Try.func69, Try.ntmps69
    go_wp2_with fail
    refine (HF.out.1 w.heap.size _ (Nat.le_refl _) HF.out.2.2.1 HF.out.2.1).mono ?_
    rintro e w1 ⟨rfl, hY1, ho1⟩
    have hB1 : Below w.heap.size w w1 := below_only HF.out.2.2.1 HF.out.2.2.1.size ho1 (by intro k hk e; omega)
    have hX1 := HF.out.2.2.2.below hB1
    have HB1 := Lib.hid hB1
    clear hB1 ho1
    obtain ⟨g, p, n, c, hbx, hn, hg, hO⟩ := hY1.ex
    have d1 := hbx.c1
    have hpc : p = none → c = 0 := by obtain ⟨p', c', he, _, _, _, hp, _⟩ := hO.form; cases he; exact hp
    have HO := Lib.hid (And.intro hO (And.intro hn hpc))
    clear hO hn hpc
    go_wp2_with (first
      | (go_at_call 27; refine (wr_must r (!y.2) x _ hX1).mono ?_; rintro e w2 ⟨rfl, hX2, ho2⟩; have HX2 := Lib.hid (And.intro hX2 ho2); clear hX2 ho2)
      | (go_at_call 30; refine (wuint_c r (wM x (!y.2)) kind 2 _ HX2.out.1 (by have := HL.out.2; omega)).mono ?_; rintro e w3 ⟨rfl, hX3, ho3⟩; have hoo := HX2.out.2.then ho3; have d0 := (hbx.only hoo (by omega)).c0; have HX3 := Lib.hid (And.intro hX3 hoo); have hrd := (HO.out.1.only hoo (by omega)).rd; have HRD := Lib.hid (hrd.mono (T := (· ≠ r)) (fun q _ hq => by omega)); clear hrd hX3 ho3 hoo)
      | (go_at_call 31; refine (wvec_c r _ _ _ _ y.1 2 0 65535 _ HX3.out.1 HO.out.2.1 HRD.out HO.out.2.2 (by decide) (by have := HL.out; omega)).mono ?_; rintro e w4 ⟨rfl, hX4, ho4⟩))
    go_end0
    rw [HY.out]
    exact ⟨rfl, hX4, ((Only.of_below HB1.out).then HX3.out.2).then ho4⟩

def wS (x : WS) (g : Int) (v : List UInt8) : WS := wV (wU x g 2) v 2 1 64
set_option maxHeartbeats 4000000 in
set_option maxRecDepth 100000 in
theorem wshare_c (r : Nat) (x : WS) (g : Int) (p2 : Option Addr) (n2 c2 : Nat) (v : List UInt8) (w : World) (hr : Wr w r x) (hl : x.1.length + 4 ≤ 70368744177664) (hv : v.length = n2) (hR2 : Rd w (· < r) p2 v) (hp2 : p2 = none → c2 = 0) :
    Calls Try.prog 72 #[rp r, .agg #[.int .i64 g, .slice p2 n2 c2]] w (WrR w r (wS x g v)) := by
  have hlt := hr.lt
  have hbx := Box2.new w 31 (.int .i64 g) (.slice p2 n2 c2)
  have hB0 : Below w.heap.size w (w.alloc (.cells #[.int .i64 g, .slice p2 n2 c2] 31)) := (Below.refl _ _).alloc (Nat.le_refl _) _
  have hwu := wU_len x g 2 (by decide)
  have c0 := hbx.c0
  have HF := Lib.hid (And.intro (hr.below hB0) (And.intro (hR2.below hB0) hB0))
  clear hr hR2 hB0
  go_enter Try.func72, Try.ntmps72
  go_wp2_with (first
    | (go_at_call 30; refine (wuint_c r x g 2 _ HF.out.1 (by omega)).mono ?_; rintro e w3 ⟨rfl, hX3, ho3⟩; have d1 := (hbx.only ho3 (by omega)).c1; have HX3 := Lib.hid (And.intro hX3 ho3); have hrd := (HF.out.2.1.only ho3 (by intro k hk e; omega)); have HRD := Lib.hid (hrd.mono (T := (· ≠ r)) (fun q _ hq => by omega)); clear hrd hX3 ho3)
    | (go_at_call 31; refine (wvec_c r _ _ _ _ v 2 1 64 _ HX3.out.1 hv HRD.out hp2 (by decide) (by omega)).mono ?_; rintro e w4 ⟨rfl, hX4, ho4⟩))
  go_end0
  exact ⟨rfl, hX4, ((Only.of_below HF.out.2.2).then HX3.out.2).then ho4⟩
end Go.Proofs.Ytegmimnhkohaoaa
