/-
  The contracts of package hello's writer's nested, part and share. Conditions: at most 2 to the 46th bytes stand in it.
-/
import Derived.Test.YtegmimnhkohaoaaZg1
import Derived.Maps.OwnOps
import Derived.Maps.Views
import Derived.WalkArith
import Derived.Deep.LoopGhost
import Derived.WalkKit
import Derived.Lib.Mul64
import Derived.Deep.CutBlock
import Derived.Deep.CutRange
import Derived.Lib.AppendZerosOnto
namespace Go.Proofs.Ytegmimnhkohaoaa
open Go.RowKit Go.Kx
set_option linter.unusedVariables false
set_option linter.unusedSimpArgs false

/-- What a closure does that puts parts into a writer that is new. -/
def Known (k : FuncId) : Prop := ∀ (args : Array Value) (w : World), (callFunc k args).run Try.prog w = .ok (.enter k args) w
def Puts (w : World) (k : FuncId) (cap : Value) (y : WS) : Prop := Known k ∧ ∀ (h : Nat) (w' : World), w.heap.size ≤ h → Below w.heap.size w w' → Wr w' h ([], false) → Calls Try.prog k #[rp h, cap] w' (WrR w' h y)
/-- What nested, part make of it. -/
def wN (x y : WS) (W : Int) : WS := wV (wM x (!y.2)) y.1 W 0 65535
def wP (x : WS) (kind : Int) (there : Bool) (y : WS) : WS := if there then wV (wU (wM x (!y.2)) kind 2) y.1 2 0 65535 else x

set_option maxHeartbeats 4000000 in
set_option maxRecDepth 100000 in
theorem wnested_c (r : Nat) (x y : WS) (W : Int) (k : FuncId) (cap : Value) (w : World) (hr : Wr w r x) (hW : W ≤ 2) (hl : x.1.length ≤ 70368744177664) (hf : Puts w k cap y) :
    Calls Try.prog 32 #[rp r, .int .i64 W, .func (.func k) #[] #[cap]] w (WrR w r (wN x y W)) := by
  have hlt := hr.lt
  have hW0 := Wr.new w
  have hB0 : Below w.heap.size w (w.alloc (.cells #[.slice none 0 0, .bool false] 80)) := (Below.refl _ _).alloc (Nat.le_refl _) _
  have hkn := hf.1
  unfold Known at hkn
  have HF := Lib.hid (And.intro hf.2 (And.intro hW0 (And.intro hB0 hr)))
  clear hf hW0 hB0 hr
  go_enter Try.func32, Try.ntmps32
  go_wp2_with fail
  refine (HF.out.1 w.heap.size _ (Nat.le_refl _) HF.out.2.2.1 HF.out.2.1).mono ?_
  rintro e w1 ⟨rfl, hY1, ho1⟩
  have hB1 : Below w.heap.size w w1 := below_only HF.out.2.2.1 HF.out.2.2.1.size ho1 (by intro k hk e; omega)
  have hX1 := HF.out.2.2.2.below hB1
  have HB1 := Lib.hid hB1
  clear hB1 ho1
  obtain ⟨g, p, n, c, hbx, hn, hg, hO⟩ := hY1.ex
  have d1 := hbx.c1
  have hpc : p = none → c = 0 := by obtain ⟨p', c', he, _, _, _, hp, _⟩ := hO.form; cases he; exact hp
  have HO := Lib.hid (And.intro hO (And.intro hn hpc))
  clear hO hn hpc
  go_wp2_with (first
    | (go_at_call 27; refine (wr_must r (!y.2) x _ hX1).mono ?_; rintro e w2 ⟨rfl, hX2, ho2⟩; have d0 := (hbx.only ho2 (by omega)).c0; have HX2 := Lib.hid (And.intro hX2 ho2); have hrd := (HO.out.1.only ho2 (by omega)).rd; have HRD := Lib.hid (hrd.mono (T := (· ≠ r)) (fun q _ hq => by omega)); clear hrd hX2 ho2)
    | (go_at_call 31; refine (wvec_c r (wM x (!y.2)) _ _ _ y.1 W 0 65535 _ HX2.out.1 HO.out.2.1 HRD.out HO.out.2.2 hW hl).mono ?_; rintro e w3 ⟨rfl, hX3, ho3⟩))
  go_end0
  exact ⟨rfl, hX3, ((Only.of_below HB1.out).then HX2.out.2).then ho3⟩

set_option maxHeartbeats 4000000 in
set_option maxRecDepth 100000 in
theorem wpart_c (r : Nat) (x y : WS) (kind : Int) (there : Bool) (k : FuncId) (cap : Value) (w : World) (hr : Wr w r x) (hl : x.1.length + 4 ≤ 70368744177664) (hf : there = true → Puts w k cap y) :
    Calls Try.prog 69 #[rp r, .int .i64 kind, .bool there, .func (.func k) #[] #[cap]] w (WrR w r (wP x kind there y)) := by
  have hlt := hr.lt
  cases there
  · clear hf
    go_enter Try.func69, Try.ntmps69
    go_wp2
    go_end0
    exact ⟨rfl, hr, Only.refl _ _⟩
  · have hf := hf rfl
    have hW0 := Wr.new w
    have hB0 : Below w.heap.size w (w.alloc (.cells #[.slice none 0 0, .bool false] 80)) := (Below.refl _ _).alloc (Nat.le_refl _) _
    have hkn := hf.1
    unfold Known at hkn
    have hwu := wU_len (wM x (!y.2)) kind 2 (by decide)
    have hwm : (wM x (!y.2)).1.length = x.1.length := rfl
    have hy : wP x kind true y = wV (wU (wM x (!y.2)) kind 2) y.1 2 0 65535 := if_pos rfl
    have HY := Lib.hid hy
    clear hy
    have HF := Lib.hid (And.intro hf.2 (And.intro hW0 (And.intro hB0 hr)))
    have HL := Lib.hid (And.intro hwu hwm)
    clear hf hW0 hB0 hr hwu hwm
    go_enter Try.func69, Try.ntmps69
    go_wp2_with fail
    refine (HF.out.1 w.heap.size _ (Nat.le_refl _) HF.out.2.2.1 HF.out.2.1).mono ?_
    rintro e w1 ⟨rfl, hY1, ho1⟩
    have hB1 : Below w.heap.size w w1 := below_only HF.out.2.2.1 HF.out.2.2.1.size ho1 (by intro k hk e; omega)
    have hX1 := HF.out.2.2.2.below hB1
    have HB1 := Lib.hid hB1
    clear hB1 ho1
    obtain ⟨g, p, n, c, hbx, hn, hg, hO⟩ := hY1.ex
    have d1 := hbx.c1
    have hpc : p = none → c = 0 := by obtain ⟨p', c', he, _, _, _, hp, _⟩ := hO.form; cases he; exact hp
    have HO := Lib.hid (And.intro hO (And.intro hn hpc))
    clear hO hn hpc
    go_wp2_with (first
      | (go_at_call 27; refine (wr_must r (!y.2) x _ hX1).mono ?_; rintro e w2 ⟨rfl, hX2, ho2⟩; have HX2 := Lib.hid (And.intro hX2 ho2); clear hX2 ho2)
      | (go_at_call 30; refine (wuint_c r (wM x (!y.2)) kind 2 _ HX2.out.1 (by have := HL.out.2; omega)).mono ?_; rintro e w3 ⟨rfl, hX3, ho3⟩; have hoo := HX2.out.2.then ho3; have d0 := (hbx.only hoo (by omega)).c0; have HX3 := Lib.hid (And.intro hX3 hoo); have hrd := (HO.out.1.only hoo (by omega)).rd; have HRD := Lib.hid (hrd.mono (T := (· ≠ r)) (fun q _ hq => by omega)); clear hrd hX3 ho3 hoo)
      | (go_at_call 31; refine (wvec_c r _ _ _ _ y.1 2 0 65535 _ HX3.out.1 HO.out.2.1 HRD.out HO.out.2.2 (by decide) (by have := HL.out; omega)).mono ?_; rintro e w4 ⟨rfl, hX4, ho4⟩))
    go_end0
    rw [HY.out]
    exact ⟨rfl, hX4, ((Only.of_below HB1.out).then HX3.out.2).then ho4⟩

def wS (x : WS) (g : Int) (v : List UInt8) : WS := wV (wU x g 2) v 2 1 64
set_option maxHeartbeats 4000000 in
set_option maxRecDepth 100000 in
theorem wshare_c (r : Nat) (x : WS) (g : Int) (p2 : Option Addr) (n2 c2 : Nat) (v : List UInt8) (w : World) (hr : Wr w r x) (hl : x.1.length + 4 ≤ 70368744177664) (hv : v.length = n2) (hR2 : Rd w (· < r) p2 v) (hp2 : p2 = none → c2 = 0) :
    Calls Try.prog 72 #[rp r, .agg #[.int .i64 g, .slice p2 n2 c2]] w (WrR w r (wS x g v)) := by
  have hlt := hr.lt
  have hbx := Box2.new w 31 (.int .i64 g) (.slice p2 n2 c2)
  have hB0 : Below w.heap.size w (w.alloc (.cells #[.int .i64 g, .slice p2 n2 c2] 31)) := (Below.refl _ _).alloc (Nat.le_refl _) _
  have hwu := wU_len x g 2 (by decide)
  have c0 := hbx.c0
  have HF := Lib.hid (And.intro (hr.below hB0) (And.intro (hR2.below hB0) hB0))
  clear hr hR2 hB0
  go_enter Try.func72, Try.ntmps72
  go_wp2_with (first
    | (go_at_call 30; refine (wuint_c r x g 2 _ HF.out.1 (by omega)).mono ?_; rintro e w3 ⟨rfl, hX3, ho3⟩; have d1 := (hbx.only ho3 (by omega)).c1; have HX3 := Lib.hid (And.intro hX3 ho3); have hrd := (HF.out.2.1.only ho3 (by intro k hk e; omega)); have HRD := Lib.hid (hrd.mono (T := (· ≠ r)) (fun q _ hq => by omega)); clear hrd hX3 ho3)
    | (go_at_call 31; refine (wvec_c r _ _ _ _ v 2 1 64 _ HX3.out.1 hv HRD.out hp2 (by decide) (by omega)).mono ?_; rintro e w4 ⟨rfl, hX4, ho4⟩))
  go_end0
  exact ⟨rfl, hX4, ((Only.of_below HF.out.2.2).then HX3.out.2).then ho4⟩
end Go.Proofs.Ytegmimnhkohaoaa
/-
  A map[int]bool of the call's own that holds a list of numbers: look-up and store. Condition: fewer than maxLen entries.
-/
namespace Go.Proofs.Ytegmimnhkohaoaa
open Go.RowKit Go.Kx Go.Maps

abbrev HD := DataW Unit
def hadD (had : List Int) : HD := had.foldr (fun k D => D.put (.int .i64 k) (.lit (.bool true))) (.map [])
theorem hadD_map (had : List Int) : IsMap (hadD had) := by
  induction had with
  | nil => exact isMap_empty
  | cons k t ih =>
    obtain ⟨es, h⟩ := ih
    show IsMap ((hadD t).put _ _)
    rw [h]
    exact ⟨_, rfl⟩
theorem hadD_at (had : List Int) (k : Int) : (hadD had).atKey (.int .i64 k) (.lit (.bool false)) = .lit (.bool (decide (k ∈ had))) := by
  induction had with
  | nil => simp [hadD, DataW.atKey]
  | cons x t ih =>
    show ((hadD t).put _ _).atKey _ _ = _
    by_cases e : k = x
    · subst e
      rw [atKey_put_same (hadD_map t) (by simp [WideAt.IsKeyLit])]
      simp
    · rw [atKey_put_other (by simp; exact e), ih]
      simp [e]
/-- Block b is a map that holds these numbers. -/
def HadAt (w : World) (b : Nat) (had : List Int) : Prop := w.ownsMap Try.prog 3 (plainElem (H := Unit) Try.prog 4) b had.length (hadD had)
theorem HadAt.lt {w : World} {b : Nat} {had : List Int} (h : HadAt w b had) : b < w.heap.size := World.ownsMap.lt h
theorem HadAt.new (w : World) : HadAt (w.alloc (.map #[] 0)) w.heap.size [] := World.ownsMap_made _ _ _ _
theorem HadAt.only {w w' : World} {q : Nat → Prop} {b : Nat} {had : List Int} (h : HadAt w b had) (ho : Only q w w') (hq : ¬ q b) : HadAt w' b had := by
  obtain ⟨es, clock, hb, F, hs, hD⟩ := id h
  exact ⟨es, clock, (ho.block b h.lt hq).trans hb, F, hs, hD⟩
theorem plainElem_bool_inv {P : Program} {e : TypeId} (he : P.underlying e = some .bool) {v : Value} {z : HD × List MemPlace} (h : plainElem P e v = some z) : ∃ x, v = .bool x ∧ z = (.lit (.bool x), []) := by
  unfold plainElem at h
  rw [he] at h
  cases v <;> simp at h
  exact ⟨_, rfl, h.symm⟩
theorem zeroB (w : World) : (zeroValue 4).run Try.prog w = .ok (.bool false) w := by kernel_rfl
theorem run_lookup_had {w : World} {b : Nat} {had : List Int} (h : HadAt w b had) (k : Int) (hk : (Lit.int .i64 k).wf = true) : (Instr.lookup 129 (.map (some b)) (.int .i64 k) false).run Try.prog w = .ok (.bool (decide (k ∈ had))) w := by
  obtain ⟨v, ps, hrun, hv⟩ := World.ownsMap.lookup h (int_keyed Try.underlying3) Try.underlying129 (zeroB w) (plainElem_bool Try.underlying4 false) (keyOf_int_mk Try.underlying3 hk)
  obtain ⟨x, rfl, hx⟩ := plainElem_bool_inv Try.underlying4 hv
  rw [hadD_at] at hx
  simp only [Prod.mk.injEq, DataW.lit.injEq, Lit.bool.injEq] at hx
  rw [hrun, hx.1]
theorem wpList_lookup_had (w : World) {ops : Array Oper} {rest : List Oper} {o : Oper} {a : Act} {Q : Exit → Act → World → Prop}
    (hg : o.guard = none) (m x : Operand) (hop : o.op = Op.lookup 129 m x false) (b : Nat) (had : List Int) (k : Int)
    (hm : a.eval m = .map (some b)) (hx : a.eval x = .int .i64 k) (h : HadAt w b had) (hk : (Lit.int .i64 k).wf = true)
    (hK : wpList Try.prog ops Q rest (a.put o.dst (.bool (decide (k ∈ had)))) w) : wpList Try.prog ops Q (o :: rest) a w := by
  refine wpList_plain hg fun K' hK' => ?_
  have hrun := run_lookup_had h k hk
  unfold Oper.wp
  simp [execOp, hop, hm, hx, hrun, Result.andThen]
  exact hK' _ _ hK
theorem wpList_update_had (w : World) {ops : Array Oper} {rest : List Oper} {o : Oper} {a : Act} {Q : Exit → Act → World → Prop}
    (hg : o.guard = none) (m x v : Operand) (hop : o.op = Op.mapUpdate 129 m x v) (b : Nat) (had : List Int) (k : Int)
    (hm : a.eval m = .map (some b)) (hx : a.eval x = .int .i64 k) (hv : a.eval v = .bool true) (h : HadAt w b had) (hk : (Lit.int .i64 k).wf = true) (hn : had.length < maxLen)
    (hK : ∀ w', HadAt w' b (k :: had) → Only (· = b) w w' → wpList Try.prog ops Q rest (a.put o.dst undef) w') : wpList Try.prog ops Q (o :: rest) a w :=
  wpList_mapUpdate_own w hg m x v 129 hop 3 4 (int_keyed Try.underlying3) Try.underlying129 _ b had.length (hadD had) hm h hn _ _ _ hx hv (keyOf_int_mk Try.underlying3 hk) _ [] (plainElem_bool Try.underlying4 true)
    fun w' h1 h2 => hK w' h1 ((Only.of_grown h2).mono fun k _ hk => by simpa using hk)
end Go.Proofs.Ytegmimnhkohaoaa
/-
  The contracts of package hello's readers that call closures: must, skip, inside, within, extensions. Conditions: at most 2 to the 47th bytes.
-/
namespace Go.Proofs.Ytegmimnhkohaoaa
open Go.RowKit Go.Kx
set_option linter.unusedVariables false
set_option linter.unusedSimpArgs false

/-- What Uint tells. -/
def rU (s : List UInt8) (bad W : Int) : Int × List UInt8 × Int := ((beN (outS s (wb bad W) W) : Nat), leftS s (wb bad W) W, badS s (wb bad W) W)
def CurR (w : World) (r g : Nat) (x : List UInt8 × Int) (e : Ending) (w' : World) : Prop := e = .returned ret0 ∧ Cur w' r g x.1 x.2 ∧ Only (· = r) w w'
theorem ruint_c (r g : Nat) (s : List UInt8) (bad W : Int) (w : World) (hr : Cur w r g s bad) : Calls Try.prog 46 #[rp r, .int .i64 W] w fun e w' => e = .returned (.int .i64 (rU s bad W).1) ∧ Cur w' r g (rU s bad W).2.1 (rU s bad W).2.2 ∧ Only (· = r) w w' := uint_c r g s bad W w hr
theorem rU_big (s : List UInt8) (bad W : Int) : 0 ≤ (rU s bad W).1 ∧ (rU s bad W).1 < 4294967296 := by
  have := beN_small _ (out_four s bad W)
  unfold rU
  simp only
  omega
theorem rU_left (s : List UInt8) (bad W : Int) : (rU s bad W).2.1.length ≤ s.length := leftS_le _ _ _
theorem vecS_left (s : List UInt8) (bad W l m : Int) : (vecS s bad W l m).2.1.length ≤ s.length := by
  unfold vecS
  simp only
  split <;> exact Nat.le_trans (leftS_le _ _ _) (leftS_le _ _ _)
theorem vecS_out (s : List UInt8) (bad W l m : Int) : (vecS s bad W l m).1.length ≤ s.length := by
  unfold vecS
  simp only
  split
  · simp
  · exact Nat.le_trans (outS_le _ _ _) (leftS_le _ _ _)

def mustS (s : List UInt8) (bad n W : Int) : List UInt8 × Int := ((rU s bad W).2.1, if (rU s bad W).1 = n then (rU s bad W).2.2 else rm (rU s bad W).2.2 3)
theorem must_c (r g : Nat) (s : List UInt8) (bad n W : Int) (w : World) (hr : Cur w r g s bad) : Calls Try.prog 43 #[rp r, .int .i64 n, .int .i64 W] w (CurR w r g (mustS s bad n W)) := by
  have H := Lib.hid (fun wx (h : Cur wx r g s bad) => ruint_c r g s bad W wx h)
  have hm : mustS s bad n W = ((rU s bad W).2.1, if (rU s bad W).1 = n then (rU s bad W).2.2 else rm (rU s bad W).2.2 3) := rfl
  have HM := Lib.hid hm
  clear hm
  generalize rU s bad W = u at *
  obtain ⟨a, s1, b1⟩ := u
  simp only at H
  by_cases h : a = n
  · have hb : (a != n) = false := by simpa using h
    have HE := Lib.hid h
    clear h
    go_enter Try.func43, Try.ntmps43
    go_wp2_with (first
      | (go_at_call 46; refine (H.out _ hr).mono ?_; rintro e w1 ⟨rfl, hc, ho⟩))
    go_end0
    rw [HM.out]
    simp only [HE.out, if_true]
    exact ⟨rfl, hc, ho⟩
  · have hb : (a != n) = true := by simpa using h
    have HE := Lib.hid h
    clear h
    go_enter Try.func43, Try.ntmps43
    go_wp2_with (first
      | (go_at_call 46; refine (H.out _ hr).mono ?_; rintro e w1 ⟨rfl, hc, ho⟩)
      | (go_at_call 49; refine (fail_c r g _ _ _ hc).mono ?_; rintro e w2 ⟨rfl, hc2, ho2⟩))
    go_end0
    rw [HM.out]
    simp only [HE.out, if_false]
    exact ⟨rfl, hc2, ho.then ho2⟩

def skipS (s : List UInt8) (bad : Int) : List UInt8 × Int := (leftS s bad (s.length : Int), badS s bad (s.length : Int))
theorem skip_c (r g : Nat) (s : List UInt8) (bad : Int) (w : World) (hr : Cur w r g s bad) (hl : s.length ≤ 140737488355328) : Calls Try.prog 86 #[rp r] w (CurR w r g (skipS s bad)) := by
  go_enter Try.func86, Try.ntmps86
  go_wp2_with (first
    | (go_at_call 82; refine (left_c r g s bad _ hr).mono ?_; rintro e w1 ⟨rfl, rfl⟩)
    | (go_at_call 44; refine (bytes_c r g s bad _ _ hr hl).mono ?_; rintro e w2 ⟨g', p, c, rfl, h1, h2, hc, ho⟩))
  go_end0
  exact ⟨rfl, hc, ho⟩

/-- What a closure does that reads all that a new Reader has: from I to J; B: the old blocks that it may change. -/
def ReadsR (w : World) (q g : Nat) (y : List UInt8 × Int) (J : World → Prop) (B : Nat → Prop) (e : Ending) (w' : World) : Prop := e = .returned ret0 ∧ Cur w' q g y.1 y.2 ∧ J w' ∧ Only (fun b => b = q ∨ B b) w w'
def Reads (M : Nat) (k : FuncId) (cap : Array Value) (I : World → Prop) (s : List UInt8) (y : List UInt8 × Int) (J : World → Prop) (B : Nat → Prop) : Prop :=
  Known k ∧ ∀ (q g : Nat) (w' : World), M ≤ q → M ≤ g → M ≤ w'.heap.size → I w' → Cur w' q g s 0 → Calls Try.prog k (#[rp q] ++ cap) w' (ReadsR w' q g y J B)
/-- The error behind it. -/
def insB (bad : Int) (y : List UInt8 × Int) : Int := if doneS y.1 y.2 = 0 then bad else rm bad 3

set_option maxHeartbeats 4000000 in
set_option maxRecDepth 100000 in
theorem inside_c (r g : Nat) (s : List UInt8) (bad : Int) (S : Nat → Prop) (p : Option Addr) (n c : Nat) (b : List UInt8) (k : FuncId) (cap : Array Value) (I J : World → Prop) (y : List UInt8 × Int) (B : Nat → Prop) (w : World)
    (hr : Cur w r g s bad) (hb : Rd w S p b) (hn : b.length = n) (hp : p = none → c = 0) (hl : b.length ≤ 140737488355328) (hI : ∀ w', Below w.heap.size w w' → I w') (hJ : ∀ w1 w2, J w1 → Only (· = r) w1 w2 → J w2)
    (hf : Reads w.heap.size k cap I b y J B) (hBr : ¬ B r) (hBg : ¬ B g) :
    Calls Try.prog 84 #[rp r, .slice p n c, .func (.func k) #[] cap] w (ReadsR w r g (s, insB bad y) J B) := by
  have hkn := hf.1
  unfold Known at hkn
  have hrl := hr.lt
  have hgl := hr.glt
  have HF := Lib.hid (And.intro hf.2 (And.intro hI (And.intro hJ (And.intro hr hb))))
  have hy : insB bad y = if doneS y.1 y.2 = 0 then bad else rm bad 3 := rfl
  have HY := Lib.hid (And.intro hy (And.intro hBr hBg))
  clear hf hI hJ hr hy hb hBr hBg
  go_enter Try.func84, Try.ntmps84
  go_wp2_with (first
    | (go_at_call 42; refine (new_c S p n c b _ HF.out.2.2.2.2 hp hl hn).mono ?_; rintro e w1 ⟨q, g1, rfl, h1, h2, h3, hc, hb1⟩; have H1 := Lib.hid (And.intro hc hb1); clear hc hb1))
  have hs1 := H1.out.2.size
  refine (HF.out.1 q g1 w1 h1 h3 hs1 (HF.out.2.1 _ H1.out.2) H1.out.1).mono ?_
  rintro e w2 ⟨rfl, hc2, hj2, ho2⟩
  have hcr : Cur w2 r g s bad := (HF.out.2.2.2.1.only (Only.of_below (r := fun _ => False) H1.out.2) (fun h => h) (fun h => h)).only ho2 (by rintro (h | h); omega; exact HY.out.2.1 h) (by rintro (h | h); omega; exact HY.out.2.2 h)
  have hoo : Only (fun b => b = r ∨ B b) w w2 := (Only.of_below (r := fun b => b = r ∨ B b) H1.out.2).trans ho2 (fun _ h => h) (fun x hx h => by rcases h with h | h; omega; exact .inr h)
  have H2 := Lib.hid (And.intro hc2 (And.intro hj2 (And.intro hcr hoo)))
  clear hc2 hj2 hcr hoo ho2
  by_cases hd : doneS y.1 y.2 = 0
  · have hx : insB bad y = bad := by rw [HY.out.1, if_pos hd]
    have HX := Lib.hid hx
    clear hx
    go_wp2_with (first
      | (go_at_call 50; refine (done_c q g1 y.1 y.2 _ H2.out.1).mono ?_; rintro e w3 ⟨rfl, rfl⟩))
    go_end0
    rw [HX.out]
    exact ⟨rfl, H2.out.2.2.1, H2.out.2.1, H2.out.2.2.2⟩
  · have hx : insB bad y = rm bad 3 := by rw [HY.out.1, if_neg hd]
    have HX := Lib.hid hx
    have hdb : (doneS y.1 y.2 != 0) = true := by simpa using hd
    clear hx hd
    go_wp2_with (first
      | (go_at_call 50; refine (done_c q g1 y.1 y.2 _ H2.out.1).mono ?_; rintro e w3 ⟨rfl, rfl⟩)
      | (go_at_call 49; refine (fail_c r g s bad _ H2.out.2.2.1).mono ?_; rintro e w4 ⟨rfl, hc4, ho4⟩))
    go_end0
    rw [HX.out]
    exact ⟨rfl, hc4, HF.out.2.2.1 _ _ H2.out.2.1 ho4, H2.out.2.2.2.then (ho4.mono (fun _ _ h => .inl h))⟩

theorem Reads.mono {M N : Nat} {k : FuncId} {cap : Array Value} {I J : World → Prop} {s : List UInt8} {y : List UInt8 × Int} {B : Nat → Prop} (h : Reads M k cap I s y J B) (hN : M ≤ N) : Reads N k cap I s y J B :=
  ⟨h.1, fun q g w' h1 h2 h3 hI hc => h.2 q g w' (by omega) (by omega) (by omega) hI hc⟩

set_option maxHeartbeats 4000000 in
set_option maxRecDepth 100000 in
theorem within_c (r g : Nat) (s : List UInt8) (bad W : Int) (k : FuncId) (cap : Array Value) (I J : World → Prop) (y : List UInt8 × Int) (B : Nat → Prop) (w : World)
    (hr : Cur w r g s bad) (hl : s.length ≤ 140737488355328) (hI : ∀ w', Only (· = r) w w' → I w') (hJ : ∀ w1 w2, J w1 → Only (· = r) w1 w2 → J w2)
    (hf : Reads w.heap.size k cap I (vecS s bad W 0 65535).1 y J B) (hBr : ¬ B r) (hBg : ¬ B g) :
    Calls Try.prog 80 #[rp r, .int .i64 W, .func (.func k) #[] cap] w (ReadsR w r g ((vecS s bad W 0 65535).2.1, insB (vecS s bad W 0 65535).2.2 y) J B) := by
  have hvo := vecS_out s bad W 0 65535
  have HV := Lib.hid (vector_c r g s bad W 0 65535 w hr hl)
  obtain ⟨b, hb⟩ : ∃ b, b = (vecS s bad W 0 65535).1 := ⟨_, rfl⟩
  obtain ⟨s1, hs1⟩ : ∃ b, b = (vecS s bad W 0 65535).2.1 := ⟨_, rfl⟩
  obtain ⟨b1, hb1⟩ : ∃ b, b = (vecS s bad W 0 65535).2.2 := ⟨_, rfl⟩
  rw [← hb, ← hs1, ← hb1] at HV
  rw [← hb] at hvo hf
  rw [← hs1, ← hb1]
  have HF := Lib.hid (And.intro hf (And.intro hI (And.intro hJ (And.intro hBr hBg))))
  clear hf hI hJ hBr hBg hb hs1 hb1 hr
  go_enter Try.func80, Try.ntmps80
  go_wp2_with (first
    | (go_at_call 45; refine (HV.out).mono ?_; rintro e w1 ⟨g', p, c, rfl, h1, hO, hc, ho⟩; have H1 := Lib.hid (And.intro hO (And.intro hc ho)); clear hO hc ho)
    | (go_at_call 84; refine (inside_c r g s1 b1 (· = g') p b.length c b k cap I J y B _ H1.out.2.1 H1.out.1.rd rfl (by obtain ⟨p', c', he, _, _, _, hp, _⟩ := H1.out.1.form; cases he; exact hp) (by omega) (fun w' hb => HF.out.2.1 w' (H1.out.2.2.then (Only.of_below hb))) HF.out.2.2.1 (HF.out.1.mono H1.out.2.2.size) HF.out.2.2.2.1 HF.out.2.2.2.2).mono ?_; rintro e w2 ⟨rfl, hc2, hj2, ho2⟩))
  go_end0
  exact ⟨rfl, hc2, hj2, (H1.out.2.2.mono (fun _ _ h => .inl h)).then ho2⟩
end Go.Proofs.Ytegmimnhkohaoaa
/-
  The contracts of sha.right, math/bits.RotateLeft32 and Mul64, and sha.root. Condition: a count from 1 to 31.
-/
namespace Go.Proofs.Ytegmimnhkohaoaa
open Go.RowKit Go.Kx
set_option linter.unusedVariables false
set_option linter.unusedSimpArgs false
attribute [local go_sem ↓] U_add U_mul U_xor U_or U_and U_not
attribute [local go_sem ↓] U_shl U_shr
attribute [local go_sem ↓] D_add D_mul D_xor D_or D_and D_not D_sub D_lss D_eql D_neq
attribute [local go_sem ↓] D_shl D_shr
attribute [local go_sem ↓] U_guard1 U_guard2 D_guard1 D_guard2

theorem and31 (n : Nat) (h : 1 ≤ n ∧ n ≤ 31) : bits .and .u64 (IntKind.u64.wrap (-(n : Int))) 31 = ((32 - n : Nat) : Int) := by
  obtain ⟨h1, h2⟩ := h
  have : n = 1 ∨ n = 2 ∨ n = 3 ∨ n = 4 ∨ n = 5 ∨ n = 6 ∨ n = 7 ∨ n = 8 ∨ n = 9 ∨ n = 10 ∨ n = 11 ∨ n = 12 ∨ n = 13 ∨ n = 14 ∨ n = 15 ∨ n = 16 ∨ n = 17 ∨ n = 18 ∨ n = 19 ∨ n = 20 ∨ n = 21 ∨ n = 22 ∨ n = 23 ∨ n = 24 ∨ n = 25 ∨ n = 26 ∨ n = 27 ∨ n = 28 ∨ n = 29 ∨ n = 30 ∨ n = 31 := by omega
  rcases this with h | h | h | h | h | h | h | h | h | h | h | h | h | h | h | h | h | h | h | h | h | h | h | h | h | h | h | h | h | h | h <;> subst h <;> rfl
theorem sub32 (n : Nat) (h : 1 ≤ n ∧ n ≤ 31) : IntKind.u64.wrap (32 - ((32 - n : Nat) : Int)) = (n : Int) := by
  obtain ⟨h1, h2⟩ := h
  have e : (32 - ((32 - n : Nat) : Int)) = (n : Int) := by omega
  rw [e]
  unfold IntKind.wrap
  simp [IntKind.bits, IntKind.signed]
  omega

theorem rotl_c (x : UInt32) (n : Nat) (w : World) (h : 1 ≤ n ∧ n ≤ 31) : Calls Try.prog 122 #[U x, .int .i64 (-(n : Int))] w fun e w' => e = .returned (U (rotr x n)) ∧ w = w' := by
  have h1 := and31 n h
  have h2 := sub32 n h
  go_enter Try.func122, Try.ntmps122
  go_wp2
  go_ret
  exact ⟨rfl, rfl⟩

theorem rotr_c (x : UInt32) (n : Nat) (w : World) (h : 1 ≤ n ∧ n ≤ 31) : Calls Try.prog 118 #[U x, .int .i64 (n : Int)] w fun e w' => e = .returned (U (rotr x n)) ∧ w = w' := by
  go_enter Try.func118, Try.ntmps118
  go_wp2_with (go_at_call 122; refine (rotl_c x n _ h).mono ?_; rintro e w' ⟨rfl, rfl⟩)
  go_ret
  exact ⟨rfl, rfl⟩

def mulhi (x y : UInt64) : UInt64 := UInt64.ofNat (x.toNat * y.toNat / 18446744073709551616)
theorem and_mask (x : UInt64) : (x &&& 4294967295).toNat = x.toNat % 4294967296 := by
  rw [UInt64.toNat_and]
  exact Nat.and_two_pow_sub_one_eq_mod x.toNat 32
theorem shr_half (x : UInt64) : (shr64 x 32).toNat = x.toNat / 4294967296 := by
  unfold shr64
  have h := x.toNat_lt
  rw [UInt64.toNat_ofNat', Nat.mod_eq_of_lt]
  omega
theorem mul64_eq (x y : UInt64) : shr64 x 32 * shr64 y 32 + shr64 (shr64 x 32 * (y &&& 4294967295) + shr64 ((x &&& 4294967295) * (y &&& 4294967295)) 32) 32 +
    shr64 ((shr64 x 32 * (y &&& 4294967295) + shr64 ((x &&& 4294967295) * (y &&& 4294967295)) 32 &&& 4294967295) + (x &&& 4294967295) * shr64 y 32) 32 = mulhi x y := by
  have hx : x.toNat < 18446744073709551616 := x.toNat_lt
  have hy : y.toNat < 18446744073709551616 := y.toNat_lt
  obtain ⟨bd, bt, bw, hhi⟩ := Lib.mul64_hi x.toNat y.toNat hx hy
  have ba := Lib.half_mul_le (a := x.toNat / 4294967296) (b := y.toNat / 4294967296) (by omega) (by omega)
  have bb := Lib.half_mul_le (a := x.toNat / 4294967296) (b := y.toNat % 4294967296) (by omega) (by omega)
  have bc := Lib.half_mul_le (a := x.toNat % 4294967296) (b := y.toNat / 4294967296) (by omega) (by omega)
  have e : ∀ n : Nat, 2 ^ 64 = 18446744073709551616 := fun _ => rfl
  apply UInt64.toNat_inj.1
  unfold mulhi
  simp only [UInt64.toNat_add, UInt64.toNat_mul, and_mask, shr_half, UInt64.toNat_ofNat', e 0]
  rw [← hhi]
  generalize x.toNat / 4294967296 * (y.toNat / 4294967296) = a at *
  generalize x.toNat / 4294967296 * (y.toNat % 4294967296) = b at *
  generalize x.toNat % 4294967296 * (y.toNat / 4294967296) = c at *
  generalize x.toNat % 4294967296 * (y.toNat % 4294967296) = d at *
  rw [Nat.mod_eq_of_lt bd, Nat.mod_eq_of_lt (by omega : b < 18446744073709551616), Nat.mod_eq_of_lt bt, Nat.mod_eq_of_lt (by omega : c < 18446744073709551616), Nat.mod_eq_of_lt bw, Nat.mod_eq_of_lt (by omega : a < 18446744073709551616), Nat.mod_eq_of_lt (by omega : a + (b + d / 4294967296) / 4294967296 < 18446744073709551616)]
theorem mul64_c (x y : UInt64) (w : World) : Calls Try.prog 121 #[D x, D y] w fun e w' => e = .returned (.tuple #[D (mulhi x y), D (x * y)]) ∧ w = w' := by
  have k1 : Value.int .u64 4294967295 = D 4294967295 := rfl
  have h := mul64_eq x y
  go_enter Try.func121, Try.ntmps121
  go_wp2
  go_ret2
  exact ⟨rfl, rfl⟩

/-! ### root -/
def rnext (r : UInt64) (b : Nat) : UInt64 := r ||| shl64 1 b
def rhigh (n : UInt64) (cube : Bool) : UInt64 := if cube then mulhi n n * n + mulhi (n * n) n else mulhi n n
def rlow (n : UInt64) (cube : Bool) : UInt64 := if cube then n * n * n else n * n
def rmost (p : UInt64) (cube : Bool) : UInt64 := if cube then shl64 p 32 else p
def rstep (p : UInt64) (cube : Bool) (r : UInt64) (b : Nat) : UInt64 :=
  if rhigh (rnext r b) cube < rmost p cube ∨ (rhigh (rnext r b) cube = rmost p cube ∧ rlow (rnext r b) cube = 0) then rnext r b else r
/-- The root behind so many steps. -/
def rootK (p : UInt64) (cube : Bool) : Nat → UInt64
  | 0 => 0
  | k + 1 => rstep p cube (rootK p cube k) (35 - k)
def rootU (p : UInt64) (cube : Bool) : UInt32 := UInt32.ofNat (rootK p cube 36).toNat

/-- What the build of a slice of one number comes to. -/
noncomputable def hidBs (t : TypeId) (v : Value) (w : World) : Result Next := (do let x ← Instr.buildSlice t 1 #[(0, v)]; pure (Next.value x) : Sem Next).run Try.prog w
noncomputable def bs1 (t e : TypeId) (k : IntKind) (v : Value) (w : World) : Result Next :=
  match v with
  | .int k' n => if k = k' then .ok (.value (.slice (some ⟨w.heap.size, 0, none⟩) 1 1)) (w.alloc (.cells #[v] e)) else hidBs t v w
  | _ => hidBs t v w
theorem bs1_D (t : TypeId) (x : UInt64) (w : World) : bs1 t 49 .u64 (D x) w = .ok (.value (.slice (some ⟨w.heap.size, 0, none⟩) 1 1)) (w.alloc (.cells #[D x] 49)) := rfl
theorem bs1_U (t : TypeId) (x : UInt32) (w : World) : bs1 t 142 .u32 (U x) w = .ok (.value (.slice (some ⟨w.heap.size, 0, none⟩) 1 1)) (w.alloc (.cells #[U x] 142)) := rfl
theorem bsrun_D (k : Int) (w : World) : (Instr.buildSlice 151 1 #[(0, .int .u64 k)]).run Try.prog w = .ok (.slice (some ⟨w.heap.size, 0, none⟩) 1 1) (w.alloc (.cells #[.int .u64 k] 49)) := by kernel_rfl
theorem bsrun_U (k : Int) (w : World) : (Instr.buildSlice 144 1 #[(0, .int .u32 k)]).run Try.prog w = .ok (.slice (some ⟨w.heap.size, 0, none⟩) 1 1) (w.alloc (.cells #[.int .u32 k] 142)) := by kernel_rfl
theorem exec_bsD (dst : Option Tmp) (x : Operand) (ty : TypeId) (pos : String) (after : Array Edge) (gd : Option (Nat × Bool)) (ρ : Operand → Value) (w : World) :
    (execOp ρ ⟨dst, .buildSlice 151 1 #[(0, x)], ty, pos, after, gd⟩).run Try.prog w = bs1 151 49 .u64 (ρ x) w := by
  have h0 : (execOp ρ ⟨dst, .buildSlice 151 1 #[(0, x)], ty, pos, after, gd⟩).run Try.prog w = hidBs 151 (ρ x) w := by kernel_rfl
  rw [h0]
  generalize ρ x = v
  unfold bs1
  split
  · split
    · rename_i h; subst h; unfold hidBs; rw [Sem.run_bind, bsrun_D]; rfl
    · rfl
  · rfl
theorem exec_bsU (dst : Option Tmp) (x : Operand) (ty : TypeId) (pos : String) (after : Array Edge) (gd : Option (Nat × Bool)) (ρ : Operand → Value) (w : World) :
    (execOp ρ ⟨dst, .buildSlice 144 1 #[(0, x)], ty, pos, after, gd⟩).run Try.prog w = bs1 144 142 .u32 (ρ x) w := by
  have h0 : (execOp ρ ⟨dst, .buildSlice 144 1 #[(0, x)], ty, pos, after, gd⟩).run Try.prog w = hidBs 144 (ρ x) w := by kernel_rfl
  rw [h0]
  generalize ρ x = v
  unfold bs1
  split
  · split
    · rename_i h; subst h; unfold hidBs; rw [Sem.run_bind, bsrun_U]; rfl
    · rfl
  · rfl
/-- What a store of one number comes to. -/
noncomputable def hidSt (t : TypeId) (a v : Value) (w : World) : Result Next := (do Instr.storeAt t a v; pure Next.skip : Sem Next).run Try.prog w
noncomputable def st1 (t : TypeId) (a v : Value) (w : World) : Result Next :=
  match a with
  | .pointer (some ad) => if v.oneCell' = true then (stored Try.prog w ad v .plain).andThen (fun _ w' => .ok .skip w') else hidSt t a v w
  | _ => hidSt t a v w
theorem st1_D (t : TypeId) (ad : Addr) (x : UInt64) (w : World) : st1 t (.pointer (some ad)) (D x) w = (stored Try.prog w ad (D x) .plain).andThen (fun _ w' => .ok .skip w') := rfl
theorem st1_i (t : TypeId) (ad : Addr) (k : IntKind) (n : Int) (w : World) : st1 t (.pointer (some ad)) (.int k n) w = (stored Try.prog w ad (.int k n) .plain).andThen (fun _ w' => .ok .skip w') := rfl
theorem st1_U (t : TypeId) (ad : Addr) (x : UInt32) (w : World) : st1 t (.pointer (some ad)) (U x) w = (stored Try.prog w ad (U x) .plain).andThen (fun _ w' => .ok .skip w') := rfl
theorem cells_one {v : Value} (h : v.oneCell' = true) : v.cells = #[v] := by cases v <;> first | rfl | (simp [Value.oneCell'] at h)
theorem hidSt_one (t : TypeId) (i : TypeInfo) (hi : Try.prog.info? t = some i) (hs : i.size = 1) (ad : Addr) (v : Value) (h : v.oneCell' = true) (w : World) :
    hidSt t (.pointer (some ad)) v w = (stored Try.prog w ad v .plain).andThen (fun _ w' => .ok .skip w') := by
  have h1 : (Instr.storeAt t (.pointer (some ad)) v).run Try.prog w = stored Try.prog w ad v .plain := by
    have ha : ad.add 0 = ad := by simp [Addr.add]
    have h2 := run_store Try.prog w ad v .plain h
    simp only [Instr.storeAt, Instr.sureAddr, Sem.run_bind, Sem.run_pure, Result.andThen_ok]
    simp [storeVar, sizeOf, typeInfo, hi, hs, cells_one h, storeCells, ha]
    rw [h2]
    rfl
  unfold hidSt
  rw [Sem.run_bind, h1]
  rfl
theorem exec_st (t : TypeId) (hi : (Try.prog.info? t).map (fun i => i.size) = some 1) (dst : Option Tmp) (x y : Operand) (ty : TypeId) (pos : String) (after : Array Edge) (gd : Option (Nat × Bool)) (ρ : Operand → Value) (w : World) :
    (execOp ρ ⟨dst, .store t x y, ty, pos, after, gd⟩).run Try.prog w = st1 t (ρ x) (ρ y) w := by
  have h0 : (execOp ρ ⟨dst, .store t x y, ty, pos, after, gd⟩).run Try.prog w = hidSt t (ρ x) (ρ y) w := rfl
  rw [h0]
  generalize ρ x = a
  generalize ρ y = v
  unfold st1
  obtain ⟨i, hi1, hi2⟩ : ∃ i, Try.prog.info? t = some i ∧ i.size = 1 := by
    simpa using hi
  split
  · split
    · rename_i h; exact hidSt_one t i hi1 hi2 _ _ h w
    · rfl
  · rfl
theorem exec_stD (dst : Option Tmp) (x y : Operand) (ty : TypeId) (pos : String) (after : Array Edge) (gd : Option (Nat × Bool)) (ρ : Operand → Value) (w : World) :
    (execOp ρ ⟨dst, .store 49 x y, ty, pos, after, gd⟩).run Try.prog w = st1 49 (ρ x) (ρ y) w := exec_st _ (by kernel_rfl) _ _ _ _ _ _ _ _ _
theorem exec_stU (dst : Option Tmp) (x y : Operand) (ty : TypeId) (pos : String) (after : Array Edge) (gd : Option (Nat × Bool)) (ρ : Operand → Value) (w : World) :
    (execOp ρ ⟨dst, .store 142 x y, ty, pos, after, gd⟩).run Try.prog w = st1 142 (ρ x) (ρ y) w := exec_st _ (by kernel_rfl) _ _ _ _ _ _ _ _ _
theorem cvD (x : UInt64) (w : World) : (convert 49 142 (D x)).run Try.prog w = .ok (U (UInt32.ofNat x.toNat)) w := by
  have h : IntKind.u32.wrap (x.toNat : Int) = ((UInt32.ofNat x.toNat).toNat : Int) := by rw [wrap_u32, UInt32.toNat_ofNat']
  have hk : Try.prog.intKind 142 = .u32 := by kernel_rfl
  have h2 := run_convert_int (P := Try.prog) (w := w) 49 142 .u64 (x.toNat : Int) (by rw [Try.underlying49]; rfl) (by rw [hk]; exact Try.underlying142)
  rw [hk, h] at h2
  exact h2

theorem root_c (p : UInt64) (cube : Bool) (w : World) : Calls Try.prog 116 #[D p, .bool cube] w fun e w' => e = .returned (U (rootU p cube)) ∧ w = w' := by
  have k1 : Value.int .u64 1 = D 1 := rfl
  have k0 : Value.int .u64 0 = D 0 := rfl
  have cv := cvD
  go_enter Try.func116, Try.ntmps116
  go_wp2
  go_loop [5, 6] (fun v5 v6 => ∃ k : Nat, k ≤ 36 ∧ v6 = .int .i64 (35 - (k : Int)) ∧ v5 = D (rootK p cube k)) (fun _ v6 => (intOf v6 + 1).toNat)
  case atStart => exact ⟨0, by omega, rfl, rfl⟩
  case round =>
    obtain ⟨k, hk, rfl, rfl⟩ := hrel
    by_cases hlt : k < 36
    · obtain ⟨b, hb⟩ : ∃ b : Nat, b = 35 - k := ⟨_, rfl⟩
      have e1 : (35 - (k : Int)) = (b : Int) := by omega
      have hs : rootK p cube (k + 1) = rstep p cube (rootK p cube k) b := by rw [hb]; rfl
      have HS := Lib.hid (And.intro hs hb)
      clear hs hb
      rw [e1]
      clear e1
      have hb0 : (0 : Int) ≤ (b : Int) := by omega
      have hb1 : (b : Int) ≤ 35 := by have := HS.out.2; omega
      obtain ⟨R, hR⟩ : ∃ R, R = rootK p cube k := ⟨_, rfl⟩
      rw [← hR] at HS ⊢
      obtain ⟨N, hN'⟩ : ∃ N, N = R ||| shl64 1 b := ⟨_, rfl⟩
      have hN : rnext R b = N := hN'.symm
      have hN2 := hN'.symm
      clear hN' hR
      cases cube
      ·
        by_cases c1 : rhigh N false < rmost p false
        · have hr : rstep p false R b = N := by unfold rstep; rw [hN, if_pos (.inl c1)]
          have HR := Lib.hid hr
          clear hr
          simp only [rhigh, rlow, rmost, if_true, if_false, Bool.false_eq_true] at c1
          go_wp2_with (go_at_call 121; refine (mul64_c _ _ _).mono ?_; rintro e w' ⟨rfl, rfl⟩)
          exact ⟨⟨k + 1, by omega, by congr 1; have := HS.out.2; omega, by rw [HS.out.1, HR.out]⟩, by simp [intOf]⟩
        · by_cases c2 : rhigh N false = rmost p false
          · by_cases c3 : rlow N false = 0
            · have hr : rstep p false R b = N := by unfold rstep; rw [hN, if_pos (.inr ⟨c2, c3⟩)]
              have HR := Lib.hid hr
              clear hr
              simp only [rhigh, rlow, rmost, if_true, if_false, Bool.false_eq_true] at c1 c2 c3
              go_wp2_with (go_at_call 121; refine (mul64_c _ _ _).mono ?_; rintro e w' ⟨rfl, rfl⟩)
              exact ⟨⟨k + 1, by omega, by congr 1; have := HS.out.2; omega, by rw [HS.out.1, HR.out]⟩, by simp [intOf]⟩
            · have hr : rstep p false R b = R := by unfold rstep; rw [hN, if_neg (fun h => h.elim c1 (fun h => c3 h.2))]
              have HR := Lib.hid hr
              clear hr
              simp only [rhigh, rlow, rmost, if_true, if_false, Bool.false_eq_true] at c1 c2 c3
              go_wp2_with (go_at_call 121; refine (mul64_c _ _ _).mono ?_; rintro e w' ⟨rfl, rfl⟩)
              exact ⟨⟨k + 1, by omega, by congr 1; have := HS.out.2; omega, by rw [HS.out.1, HR.out]⟩, by simp [intOf]⟩
          · have hr : rstep p false R b = R := by unfold rstep; rw [hN, if_neg (fun h => h.elim c1 (fun h => c2 h.1))]
            have HR := Lib.hid hr
            clear hr
            simp only [rhigh, rlow, rmost, if_true, if_false, Bool.false_eq_true] at c1 c2
            go_wp2_with (go_at_call 121; refine (mul64_c _ _ _).mono ?_; rintro e w' ⟨rfl, rfl⟩)
            exact ⟨⟨k + 1, by omega, by congr 1; have := HS.out.2; omega, by rw [HS.out.1, HR.out]⟩, by simp [intOf]⟩
      ·
        by_cases c1 : rhigh N true < rmost p true
        · have hr : rstep p true R b = N := by unfold rstep; rw [hN, if_pos (.inl c1)]
          have HR := Lib.hid hr
          clear hr
          simp only [rhigh, rlow, rmost, if_true, if_false, Bool.false_eq_true] at c1
          go_wp2_with (go_at_call 121; refine (mul64_c _ _ _).mono ?_; rintro e w' ⟨rfl, rfl⟩)
          exact ⟨⟨k + 1, by omega, by congr 1; have := HS.out.2; omega, by rw [HS.out.1, HR.out]⟩, by simp [intOf]⟩
        · by_cases c2 : rhigh N true = rmost p true
          · by_cases c3 : rlow N true = 0
            · have hr : rstep p true R b = N := by unfold rstep; rw [hN, if_pos (.inr ⟨c2, c3⟩)]
              have HR := Lib.hid hr
              clear hr
              simp only [rhigh, rlow, rmost, if_true, if_false, Bool.false_eq_true] at c1 c2 c3
              go_wp2_with (go_at_call 121; refine (mul64_c _ _ _).mono ?_; rintro e w' ⟨rfl, rfl⟩)
              exact ⟨⟨k + 1, by omega, by congr 1; have := HS.out.2; omega, by rw [HS.out.1, HR.out]⟩, by simp [intOf]⟩
            · have hr : rstep p true R b = R := by unfold rstep; rw [hN, if_neg (fun h => h.elim c1 (fun h => c3 h.2))]
              have HR := Lib.hid hr
              clear hr
              simp only [rhigh, rlow, rmost, if_true, if_false, Bool.false_eq_true] at c1 c2 c3
              go_wp2_with (go_at_call 121; refine (mul64_c _ _ _).mono ?_; rintro e w' ⟨rfl, rfl⟩)
              exact ⟨⟨k + 1, by omega, by congr 1; have := HS.out.2; omega, by rw [HS.out.1, HR.out]⟩, by simp [intOf]⟩
          · have hr : rstep p true R b = R := by unfold rstep; rw [hN, if_neg (fun h => h.elim c1 (fun h => c2 h.1))]
            have HR := Lib.hid hr
            clear hr
            simp only [rhigh, rlow, rmost, if_true, if_false, Bool.false_eq_true] at c1 c2
            go_wp2_with (go_at_call 121; refine (mul64_c _ _ _).mono ?_; rintro e w' ⟨rfl, rfl⟩)
            exact ⟨⟨k + 1, by omega, by congr 1; have := HS.out.2; omega, by rw [HS.out.1, HR.out]⟩, by simp [intOf]⟩
    · have hk6 : k = 36 := by omega
      subst hk6
      go_wp2
      go_ret
      exact ⟨rfl, rfl⟩
end Go.Proofs.Ytegmimnhkohaoaa
/-
  The contracts of sha.primes and sha.roots, and of slices.IndexFunc and ContainsFunc as primes calls them. Condition: at most 64 of them.
-/
namespace Go.Proofs.Ytegmimnhkohaoaa
open Go.RowKit Go.Kx
set_option linter.unusedVariables false
set_option linter.unusedSimpArgs false
attribute [local go_sem ↓] U_add U_mul U_xor U_or U_and U_not U_shl U_shr U_guard1 U_guard2
attribute [local go_sem ↓] D_add D_mul D_xor D_or D_and D_not D_sub D_lss D_eql D_neq D_shl D_shr D_guard1 D_guard2 D_store U_store exec_bsD exec_bsU
attribute [local go_sem ↓] exec_stD exec_stU
attribute [local go_sem] bs1_D bs1_U st1_D st1_U st1_i

/-- A variable of one cell. -/
def Var (w : World) (b t : Nat) (v : Value) : Prop := w.heap[b]? = some (.cells #[v] t (0, 0))
theorem Var.c {w : World} {b t : Nat} {v : Value} (h : Var w b t v) : w.cell? ⟨b, 0, none⟩ = some v := by unfold Var at h; simp [World.cell?, h]
theorem Var.fr {w : World} {b t : Nat} {v : Value} (h : Var w b t v) : w.frozen? ⟨b, 0, none⟩ = false := by unfold Var at h; simp [World.frozen?, h]
theorem Var.lt {w : World} {b t : Nat} {v : Value} (h : Var w b t v) : b < w.heap.size := (Array.getElem?_eq_some_iff.1 h).1
theorem Var.only {w w' : World} {q : Nat → Prop} {b t : Nat} {v : Value} (h : Var w b t v) (ho : Only q w w') (hd : ¬ q b) : Var w' b t v := (ho.block b h.lt hd).trans h
theorem Var.below {w w' : World} {b t : Nat} {v : Value} (h : Var w b t v) (ho : Below w.heap.size w w') : Var w' b t v := (ho.block b h.lt).trans h
theorem Var.new (w : World) (t : Nat) (v : Value) : Var (w.alloc (.cells #[v] t)) w.heap.size t v := heap_alloc_new w _

theorem divides_c (q p : UInt64) (B : Nat) (w : World) (hq : q ≠ 0) (hc : w.cell? ⟨B, 0, none⟩ = some (D p)) :
    Calls Try.prog 120 #[D q, .pointer (some ⟨B, 0, none⟩)] w fun e w' => e = .returned (.bool (decide (p % q = 0))) ∧ w = w' := by
  have hr := fun (w : World) => D_rem (P := Try.prog) (w := w) (t := 49) p q hq
  have k0 : Value.int .u64 0 = D 0 := rfl
  go_enter Try.func120, Try.ntmps120
  go_wp2
  go_ret
  exact ⟨rfl, rfl⟩

/-- Numbers that lie in a row. -/
def NumsAt (w : World) (p : Option Addr) (qs : List UInt64) : Prop := ∀ i (h : i < qs.length), ∃ g o, p = some ⟨g, o, none⟩ ∧ w.cell? ⟨g, o + i, none⟩ = some (D qs[i])

def IdxR (w : World) (qs : List UInt64) (p : UInt64) (e : Ending) (w' : World) : Prop := ∃ r : Int, e = .returned (.int .i64 r) ∧ decide (0 ≤ r) = qs.any (fun q => decide (p % q = 0)) ∧ w = w'

theorem index_c (a : Option Addr) (n c : Nat) (qs : List UInt64) (p : UInt64) (B : Nat) (w : World) (hN : NumsAt w a qs) (hl : qs.length = n) (hm : n ≤ 1000) (h0 : ∀ q ∈ qs, q ≠ 0) (hc : w.cell? ⟨B, 0, none⟩ = some (D p)) :
    Calls Try.prog 123 #[.slice a n c, .func (.func 120) #[] #[.pointer (some ⟨B, 0, none⟩)]] w (IdxR w qs p) := by
  subst hl
  go_enter Try.func123, Try.ntmps123
  go_wp2
  go_loop [8] (fun v8 => ∃ i : Nat, v8 = .int .i64 (i : Int) ∧ i ≤ qs.length ∧ (qs.take i).any (fun q => decide (p % q = 0)) = false) (fun v8 => qs.length - (intOf v8).toNat)
  case atStart => exact ⟨0, rfl, by omega, rfl⟩
  case round =>
    obtain ⟨i, rfl, hi, hany⟩ := hrel
    have HA := Lib.hid hany
    clear hany
    by_cases hlt : i < qs.length
    · obtain ⟨g, o, rfl, hcell⟩ := hN i hlt
      have hlI : (i : Int) < (qs.length : Int) := by omega
      have hq0 : qs[i] ≠ 0 := h0 _ (List.getElem_mem hlt)
      have hts : qs.take (i + 1) = qs.take i ++ [qs[i]] := List.take_succ_eq_append_getElem hlt
      have HT := Lib.hid hts
      obtain ⟨q, hq⟩ : ∃ q, q = qs[i] := ⟨_, rfl⟩
      rw [← hq] at hcell hq0
      have HQ := Lib.hid hq
      clear hts hq
      have HD := Lib.hid h0
      clear h0 hN
      by_cases hd : p % q = 0
      · have hb : decide (p % q = 0) = true := decide_eq_true hd
        go_wp2_with (go_at_call 120; refine (divides_c q p B _ hq0 hc).mono ?_; rintro e w' ⟨rfl, rfl⟩)
        go_ret
        refine ⟨(i : Int), rfl, ?_, rfl⟩
        have hmem : q ∈ qs := by rw [HQ.out]; exact List.getElem_mem hlt
        rw [decide_eq_true (by omega : (0 : Int) ≤ (i : Int))]
        exact (List.any_eq_true.2 ⟨q, hmem, hb⟩).symm
      · have hb : decide (p % q = 0) = false := decide_eq_false hd
        go_wp2_with (go_at_call 120; refine (divides_c q p B _ hq0 hc).mono ?_; rintro e w' ⟨rfl, rfl⟩)
        exact ⟨⟨i + 1, by simp, by omega, by rw [HT.out, List.any_append, HA.out, ← HQ.out]; simp [hd]⟩, by simp [intOf]; omega⟩
    · have hlI : ¬ (i : Int) < (qs.length : Int) := by omega
      go_wp2
      go_ret
      have : qs.take i = qs := List.take_of_length_le (by omega)
      exact ⟨-1, rfl, by rw [← this, HA.out]; rfl, rfl⟩

theorem contains_c (a : Option Addr) (n c : Nat) (qs : List UInt64) (p : UInt64) (B : Nat) (w : World) (hN : NumsAt w a qs) (hl : qs.length = n) (hm : n ≤ 1000) (h0 : ∀ q ∈ qs, q ≠ 0) (hc : w.cell? ⟨B, 0, none⟩ = some (D p)) :
    Calls Try.prog 119 #[.slice a n c, .func (.func 120) #[] #[.pointer (some ⟨B, 0, none⟩)]] w (fun e w' => e = .returned (.bool (qs.any (fun q => decide (p % q = 0)))) ∧ w = w') := by
  obtain ⟨bb, hbb⟩ : ∃ bb, bb = qs.any (fun q => decide (p % q = 0)) := ⟨_, rfl⟩
  rw [← hbb]
  have HB := Lib.hid hbb
  clear hbb
  have H := Lib.hid (index_c a n c qs p B w hN hl hm h0 hc)
  clear hN hl hm h0 hc
  go_enter Try.func119, Try.ntmps119
  go_wp2_with (go_at_call 123; refine H.out.mono ?_; rintro e w' ⟨r, rfl, hr, rfl⟩; rw [← HB.out] at hr)
  go_ret
  exact ⟨by first | rfl | (rw [← hr]), rfl⟩

/-! ### primes -/
/-- The primes from 2 on, of so many numbers. -/
def pr : Nat → List UInt64
  | 0 => []
  | k + 1 => if (pr k).any (fun q => decide (UInt64.ofNat (k + 2) % q = 0)) then pr k else pr k ++ [UInt64.ofNat (k + 2)]
theorem pr_succ (k : Nat) : pr (k + 1) = if (pr k).any (fun q => decide (UInt64.ofNat (k + 2) % q = 0)) then pr k else pr k ++ [UInt64.ofNat (k + 2)] := rfl
theorem pr_prefix (k j : Nat) : ∃ t, pr (k + j) = pr k ++ t := by
  induction j with
  | zero => exact ⟨[], by simp⟩
  | succ j ih =>
    obtain ⟨t, ht⟩ := ih
    rw [show k + (j + 1) = (k + j) + 1 by omega, pr_succ]
    split
    · exact ⟨t, ht⟩
    · exact ⟨t ++ [_], by rw [ht, List.append_assoc]⟩
theorem pr_len : (pr 310).length = 64 := by decide +kernel
/-- The first so many. -/
def primesL (n : Nat) : List UInt64 := (pr 310).take n
theorem pr_take {k n : Nat} (hk : k ≤ 310) (h : (pr k).length = n) : pr k = primesL n := by
  obtain ⟨t, ht⟩ := pr_prefix k (310 - k)
  rw [show k + (310 - k) = 310 by omega] at ht
  unfold primesL
  rw [ht, ← h, List.take_left']
  rfl
theorem pr_bound {k n : Nat} (hn : n ≤ 64) (h : (pr k).length < n) : k < 310 := by
  apply Nat.lt_of_not_le
  intro hk
  obtain ⟨t, ht⟩ := pr_prefix 310 (k - 310)
  rw [show 310 + (k - 310) = k by omega] at ht
  rw [ht, List.length_append, pr_len] at h
  omega
theorem pr_ne (k : Nat) (hk : k ≤ 1000) : ∀ q ∈ pr k, q ≠ 0 := by
  induction k with
  | zero => intro q hq; cases hq
  | succ k ih =>
    intro q hq
    rw [pr_succ] at hq
    split at hq
    · exact ih (by omega) q hq
    · rw [List.mem_append, List.mem_singleton] at hq
      rcases hq with hq | rfl
      · exact ih (by omega) q hq
      · intro h
        have := congrArg UInt64.toNat h
        rw [UInt64.toNat_ofNat', Nat.mod_eq_of_lt (by omega)] at this
        simp at this

theorem Try.infoD : (Try.prog.info? 49).map (fun i => (i.zero, i.size, i.bytes)) = some (some (.int .u64 0), 1, 8) := by kernel_rfl
theorem Try.infoU : (Try.prog.info? 142).map (fun i => (i.zero, i.size, i.bytes)) = some (some (.int .u32 0), 1, 4) := by kernel_rfl

/-- A row of numbers of the call's own. -/
def RowD (w : World) (g : Nat) (v : Value) (l : List UInt64) : Prop := Row w 49 1 g v l.length (l.map D)
def RowU (w : World) (g : Nat) (v : Value) (l : List UInt32) : Prop := Row w 142 1 g v l.length (l.map U)
theorem RowD.nums {w : World} {g : Nat} {p : Option Addr} {n c : Nat} {l : List UInt64} (h : RowD w g (.slice p n c) l) : l.length = n ∧ NumsAt w p l ∧ (0 < n → g < w.heap.size) := by
  obtain ⟨p', c', hv, h1, h2⟩ := Row.form h
  cases hv
  refine ⟨rfl, fun i hi => ?_, fun h => (h1 h).2⟩
  obtain ⟨rfl, _⟩ := h1 (by omega)
  exact ⟨g, 0, rfl, by rw [Nat.zero_add]; exact h2 i (D l[i]) (by simp [hi])⟩

def PrRel (w : World) (n : Nat) (v3 v4 : Value) (wr : World) : Prop := ∃ k g b, v4 = .pointer (some ⟨b, 0, none⟩) ∧ (pr k).length ≤ n ∧ k ≤ 310 ∧ Var wr b 49 (D (UInt64.ofNat (k + 2))) ∧ RowD wr g v3 (pr k) ∧ g ≠ b ∧ w.heap.size ≤ g ∧ w.heap.size ≤ b ∧ Below w.heap.size w wr
def PrMeas (v3 v4 : Value) (wr : World) : Nat := match v4 with
  | .pointer (some ⟨b, 0, none⟩) => match wr.cell? ⟨b, 0, none⟩ with
    | some (.int .u64 n) => 400 - n.toNat
    | _ => 0
  | _ => 0
theorem PrMeas_at {v3 : Value} {b k : Nat} {wr : World} (hk : k ≤ 310) (h : Var wr b 49 (D (UInt64.ofNat (k + 2)))) : PrMeas v3 (.pointer (some ⟨b, 0, none⟩)) wr = 398 - k := by
  have e : UInt64.toNat (UInt64.ofNat (k + 2)) = k + 2 := by rw [UInt64.toNat_ofNat', Nat.mod_eq_of_lt (by omega)]
  unfold PrMeas
  simp only [h.c, D, e]
  omega

def PrR (w : World) (n : Nat) (e : Ending) (w' : World) : Prop := ∃ g p c, e = .returned (.slice p n c) ∧ RowD w' g (.slice p n c) (primesL n) ∧ w.heap.size ≤ g ∧ Below w.heap.size w w'

set_option maxHeartbeats 2000000 in
theorem primes_c (n : Nat) (w : World) (hn : 1 ≤ n ∧ n ≤ 64) : Calls Try.prog 115 #[.int .i64 (n : Int)] w (PrR w n) := by
  have k1 : Value.int .u64 1 = D 1 := rfl
  go_enter Try.func115, Try.ntmps115
  go_wp2
  go_loopw [3, 4] (fun v3 v4 wr => PrRel w n v3 v4 wr) (fun v3 v4 wr => PrMeas v3 v4 wr)
  case atStart =>
    exact ⟨0, w.heap.size + 1, w.heap.size, rfl, by simp [pr], by omega, Var.new _ _ _, Row.nil _ _ _ _, by omega, by omega, by omega, (Below.refl _ _).alloc (Nat.le_refl _) _⟩
  case round =>
    obtain ⟨k, g, b, rfl, hl, hk, hV, hO, hgb, hg, hb, hB⟩ := hrel
    have hM := PrMeas_at (v3 := u3) hk hV
    obtain ⟨p3, c3, rfl, hf1, hf2⟩ := Row.form hO
    obtain ⟨hN1, hN2, hN3⟩ := hO.nums
    obtain ⟨P, hP⟩ : ∃ P, P = UInt64.ofNat (k + 2) := ⟨_, rfl⟩
    have hP1 : UInt64.ofNat (k + 1 + 2) = P + 1 := by
      apply UInt64.toNat_inj.1
      rw [hP, UInt64.toNat_add, UInt64.toNat_ofNat', UInt64.toNat_ofNat']
      show _ = ((k + 2) % 2 ^ 64 + 1) % 2 ^ 64
      omega
    rw [← hP] at hV
    obtain ⟨L, hL⟩ : ∃ L, L = (pr k).length := ⟨_, rfl⟩
    rw [← hL] at hl hM hO hN3 hf1 ⊢
    have hN1' := hN1
    have HP := Lib.hid (And.intro hP (And.intro hP1 hL))
    have hR : Row wr 49 1 g (.slice p3 L c3) L ((pr k).map D) := by have h := hO; unfold RowD at h; rw [← hL] at h; exact h
    have HR := Lib.hid hR
    have HH := Lib.hid (And.intro hV (And.intro hO (And.intro hB (And.intro hM hN2))))
    have cb := hV.c
    have hbl := hV.lt
    have hne := pr_ne k (by omega)
    have HNE := Lib.hid hne
    have hsz := hB.size
    have hL1 : L ≤ 1000 := by omega
    clear hP hP1 hV hO hB hM hf1 hf2 hN2 hne hN1 hL hR
    by_cases hlt : L < n
    · have hlI : (L : Int) < (n : Int) := by omega
      have hk2 : k < 310 := pr_bound hn.2 (by rw [← HP.out.2.2]; exact hlt)
      have cont := fun (w' : World) (hc : w'.cell? ⟨b, 0, none⟩ = some (D P)) (hN : NumsAt w' p3 (pr k)) => contains_c p3 L c3 (pr k) P b w' hN HP.out.2.2.symm hL1 HNE.out hc
      have CT := Lib.hid cont
      clear cont
      obtain ⟨bb, hbb⟩ : ∃ bb, bb = (pr k).any (fun q => decide (P % q = 0)) := ⟨_, rfl⟩
      rw [← hbb] at CT
      have HBB := Lib.hid hbb
      clear hbb
      cases bb
      · go_wp2_with (first
          | (go_at_call 119; refine (CT.out _ cb HH.out.2.2.2.2).mono ?_; rintro e w' ⟨rfl, rfl⟩)
          | (at_builtin; refine wpList_append_row rfl _ _ 151 rfl 49 (.int .u64 0) 1 8 Try.underlying151 Try.infoD rfl (by decide) g (.slice p3 L c3) L ((pr k).map D) rfl (Row.only HR.out ((Only.refl (fun _ => False) wr).alloc _) (fun h => h)) ⟨wr.heap.size, 0, none⟩ 1 1 [D P] rfl rfl (cell_one wr _ _) (by simp [Value.oneCell', D]) (by unfold maxLen; omega) (by omega) (wr.heap.size + 1) (by simp) ?_; intro g' v' w1 hrow hg' hO1; have hV1 : Var w1 b 49 (D P) := (HH.out.1.below ((Below.refl _ _).alloc (Nat.le_refl _) (.cells #[D P] 49))).only hO1 (by omega); have cb1 := hV1.c))
        have hs1 := hO1.size
        simp only [World.size_alloc] at hs1
        have hpr : pr (k + 1) = pr k ++ [P] := by rw [pr_succ, ← HP.out.1, ← HBB.out]; rfl
        obtain ⟨q, c', hv', z1, z2⟩ := Row.form hrow
        have hgl := (z1 (by omega)).2
        have hB1 : Below w.heap.size w w1 := below_only (HH.out.2.2.1.alloc hsz _) (by simp; omega) hO1 (by intro x hx e; omega)
        have hVn := Var.new w1 49 (D (UInt64.ofNat (k + 1 + 2)))
        have hm1 := PrMeas_at (v3 := v') (by omega) hVn
        rw [HP.out.2.1] at hVn hm1
        refine ⟨⟨k + 1, g', w1.heap.size, rfl, by rw [hpr, List.length_append, ← HP.out.2.2]; exact hlt, by omega, by rw [HP.out.2.1]; exact hVn, ?_, by omega, by omega, by omega, hB1.alloc hB1.size _⟩, by rw [hm1, HH.out.2.2.2.1]; omega⟩
        unfold RowD
        rw [hpr, List.length_append, List.map_append, ← HP.out.2.2]
        exact Row.only hrow ((Only.refl (fun _ => False) w1).alloc _) (fun h => h)
      · go_wp2_with (go_at_call 119; refine (CT.out _ cb HH.out.2.2.2.2).mono ?_; rintro e w' ⟨rfl, rfl⟩)
        have hpr : pr (k + 1) = pr k := by rw [pr_succ, ← HP.out.1, ← HBB.out]; rfl
        have hVn := Var.new wr 49 (D (UInt64.ofNat (k + 1 + 2)))
        have hm1 := PrMeas_at (v3 := .slice p3 L c3) (by omega) hVn
        rw [HP.out.2.1] at hVn hm1
        by_cases hL0 : 0 < L
        · refine ⟨⟨k + 1, g, wr.heap.size, rfl, by rw [hpr, ← HP.out.2.2]; exact hl, by omega, by rw [HP.out.2.1]; exact hVn, ?_, by have := hN3 hL0; omega, by omega, by omega, HH.out.2.2.1.alloc hsz _⟩, by rw [hm1, HH.out.2.2.2.1]; omega⟩
          rw [hpr]
          exact Row.only HH.out.2.1 ((Only.refl (fun _ => False) wr).alloc _) (fun h => h)
        · exfalso
          have h0 : pr k = [] := List.eq_nil_of_length_eq_zero (by rw [← HP.out.2.2]; omega)
          have := HBB.out
          rw [h0] at this
          cases this
    · have hlI : ¬ (L : Int) < (n : Int) := by omega
      obtain rfl : L = n := by omega
      go_wp2
      go_ret
      exact ⟨g, p3, c3, rfl, by rw [← pr_take hk HP.out.2.2.symm]; exact HH.out.2.1, hg, HH.out.2.2.1⟩

/-! ### roots -/
def rootsL (n : Nat) (cube : Bool) : List UInt32 := (primesL n).map fun p => rootU p cube
theorem primesL_len {n : Nat} (h : n ≤ 64) : (primesL n).length = n := by unfold primesL; rw [List.length_take, pr_len]; omega
theorem NumsAt.below {w w' : World} {p : Option Addr} {qs : List UInt64} (h : NumsAt w p qs) (hb : Below w.heap.size w w') : NumsAt w' p qs := by
  intro i hi
  obtain ⟨g, o, h1, h2⟩ := h i hi
  exact ⟨g, o, h1, (hb.cell (p := ⟨g, o + i, none⟩) (World.block_lt_of_cell? _ _ h2)).trans h2⟩
def RoRel (w1 : World) (n : Nat) (cube : Bool) (v5 v11 : Value) (wr : World) : Prop := ∃ (i g : Nat), v11 = .int .i64 (i : Int) ∧ i ≤ n ∧ Row wr 142 1 g v5 i (((rootsL n cube).take i).map U) ∧ w1.heap.size ≤ g ∧ Below w1.heap.size w1 wr
def RoR (w : World) (n : Nat) (cube : Bool) (e : Ending) (w' : World) : Prop := ∃ g c, e = .returned (.slice (some ⟨g, 0, none⟩) n c) ∧ Row w' 142 1 g (.slice (some ⟨g, 0, none⟩) n c) n ((rootsL n cube).map U) ∧ w.heap.size ≤ g ∧ g < w'.heap.size ∧ Below w.heap.size w w'

set_option maxHeartbeats 2000000 in
theorem roots_c (n : Nat) (cube : Bool) (w : World) (hn : 1 ≤ n ∧ n ≤ 64) : Calls Try.prog 106 #[.int .i64 (n : Int), .bool cube] w (RoR w n cube) := by
  have hpl := primesL_len hn.2
  have HPL := Lib.hid hpl
  have HRL := Lib.hid (show (rootsL n cube).length = n by unfold rootsL; rw [List.length_map]; exact hpl)
  clear hpl
  go_enter Try.func106, Try.ntmps106
  go_wp2_with (go_at_call 115; refine (primes_c n _ hn).mono ?_; rintro e w1 ⟨g0, p0, c0, rfl, hrow, hg0, hB⟩; have HN := Lib.hid hrow.nums.2.1; have HB := Lib.hid hB; clear hrow hB)
  go_loopw [5, 11] (fun v5 v11 wr => RoRel w1 n cube v5 v11 wr) (fun _ v11 _ => n - (intOf v11).toNat)
  case atStart => exact ⟨0, w1.heap.size, rfl, by omega, Row.nil _ _ _ _, by omega, Below.refl _ _⟩
  case round =>
    obtain ⟨i, g, rfl, hi, hO, hg, hB1⟩ := hrel
    have HO := Lib.hid hO
    have HB1 := Lib.hid hB1
    clear hO hB1
    by_cases hlt : i < n
    · have hlI : (i : Int) < (n : Int) := by omega
      have hip : i < (primesL n).length := by rw [HPL.out]; exact hlt
      obtain ⟨gq, oq, rfl, hcell⟩ := (HN.out.below HB1.out) i hip
      have htk : (rootsL n cube).take (i + 1) = (rootsL n cube).take i ++ [rootU ((primesL n)[i]'hip) cube] := by
        have hir : i < (rootsL n cube).length := by rw [HRL.out]; exact hlt
        rw [List.take_succ_eq_append_getElem hir]
        simp [rootsL]
      obtain ⟨P, hP⟩ : ∃ P, P = (primesL n)[i]'hip := ⟨_, rfl⟩
      rw [← hP] at htk hcell
      have HT := Lib.hid htk
      clear htk hP hip
      go_wp2_with (first
        | (go_at_call 116; refine (root_c P cube _).mono ?_; rintro e w' ⟨rfl, rfl⟩)
        | (at_builtin; refine wpList_append_row rfl _ _ 144 rfl 142 (.int .u32 0) 1 4 Try.underlying144 Try.infoU rfl (by decide) g _ i (((rootsL n cube).take i).map U) rfl (Row.only HO.out ((Only.refl (fun _ => False) wr).alloc _) (fun h => h)) ⟨wr.heap.size, 0, none⟩ 1 1 [U (rootU P cube)] rfl rfl (cell_one wr _ _) (by simp [Value.oneCell', U]) (by unfold maxLen; omega) (by omega) (wr.heap.size + 1) (by simp) ?_; intro g' v' w2 hrow hg' hO1))
      have hs1 := hO1.size
      have hsz := HB1.out.size
      simp only [World.size_alloc] at hs1
      refine ⟨⟨i + 1, g', by simp, by omega, by rw [HT.out, List.map_append]; exact hrow, by omega, below_only (HB1.out.alloc hsz _) (by simp; omega) hO1 (by intro x hx e; omega)⟩, by simp [intOf]; omega⟩
    · have hlI : ¬ (i : Int) < (n : Int) := by omega
      obtain rfl : i = n := by omega
      obtain ⟨q, c', hv', z1, z2⟩ := Row.form HO.out
      obtain ⟨rfl, hgl⟩ := z1 (by omega)
      subst hv'
      go_wp2
      go_ret
      refine ⟨g, c', rfl, ?_, by have := HB.out.size; omega, hgl, HB.out.trans (HB1.out.mono HB.out.size)⟩
      have ht : (rootsL i cube).take i = rootsL i cube := List.take_of_length_le (by rw [HRL.out]; omega)
      have h := HO.out
      rw [ht] at h
      exact h
end Go.Proofs.Ytegmimnhkohaoaa
/-
  The contract of hello.extensions, of whatever method reads one. Conditions: at most 2 to the 46th bytes.
-/
namespace Go.Proofs.Ytegmimnhkohaoaa
open Go.RowKit Go.Kx
set_option linter.unusedVariables false
set_option linter.unusedSimpArgs false

/-- A method that reads one extension into what block q0 holds. -/
structure Ext {σ : Type} (kf : FuncId) (q0 : Nat) (At : World → (Nat → Prop) → σ → Prop) (F : σ → Int → List UInt8 → Bool → σ × List UInt8 × Int) : Prop where
  known : Known kf
  only : ∀ w w' S X st, At w S st → Only X w w' → (∀ k, X k → ¬ S k ∧ k ≠ q0) → At w' S st
  mono : ∀ w S T st, At w S st → (∀ k, k < w.heap.size → S k → T k) → At w T st
  lt : ∀ w S st, At w S st → q0 < w.heap.size
  run : ∀ (w : World) (S : Nat → Prop) (st : σ) (q g : Nat) (kind : Int) (s : List UInt8) (last : Bool), At w S st → ¬ S q → ¬ S q0 → q ≠ q0 → g ≠ q0 → Cur w q g s 0 → s.length ≤ 140737488355328 → 0 ≤ kind → kind < 4294967296 →
    Calls Try.prog kf #[rp q0, .int .i64 kind, rp q, .bool last] w (ReadsR w q g (F st kind s last).2 (fun w' => At w' (fun k => S k ∨ w.heap.size ≤ k) (F st kind s last).1) (· = q0))

theorem knownE2 : Known 85 := fun _ _ => by kernel_rfl
theorem knownE1 : Known 81 := fun _ _ => by kernel_rfl

section
variable {σ : Type} {kf : FuncId} {q0 : Nat} {At : World → (Nat → Prop) → σ → Prop} {F : σ → Int → List UInt8 → Bool → σ × List UInt8 × Int}

set_option maxHeartbeats 4000000 in
set_option maxRecDepth 100000 in
theorem ext2_c (X : Ext kf q0 At F) (M : Nat) (S : Nat → Prop) (st : σ) (kind : Int) (last : Bool) (bf bk bl : Nat) (s : List UInt8) (hS : ¬ S q0) (hSM : ∀ k, M ≤ k → S k) (hq : q0 < M) (hs : s.length ≤ 140737488355328) (hk0 : 0 ≤ kind) (hk1 : kind < 4294967296) :
    Reads M 85 #[.pointer (some ⟨bf, 0, none⟩), .pointer (some ⟨bk, 0, none⟩), .pointer (some ⟨bl, 0, none⟩)] (fun w => At w (fun k => S k ∧ k < M) st ∧ w.cell? ⟨bf, 0, none⟩ = some (.func (.func kf) #[rp q0] #[]) ∧ w.cell? ⟨bk, 0, none⟩ = some (.int .i64 kind) ∧ w.cell? ⟨bl, 0, none⟩ = some (.bool last)) s (F st kind s last).2 (fun w => At w S (F st kind s last).1) (· = q0) := by
  refine ⟨knownE2, fun q g w h1 h2 h3 hI hc => ?_⟩
  obtain ⟨hA, c1, c2, c3⟩ := hI
  have hkn := X.known
  unfold Known at hkn
  have HR := Lib.hid (X.run w _ st q g kind s last hA (by rintro ⟨_, h⟩; omega) (by rintro ⟨h, _⟩; exact hS h) (by omega) (by omega) hc hs hk0 hk1)
  have HM := Lib.hid (fun (w' : World) (h : At w' (fun k => (S k ∧ k < M) ∨ w.heap.size ≤ k) (F st kind s last).1) => X.mono _ _ S _ h (fun k _ hk => by rcases hk with hk | hk; exact hk.1; exact hSM k (by omega)))
  clear hA hc
  show Calls Try.prog _ #[rp q, .pointer (some ⟨bf, 0, none⟩), .pointer (some ⟨bk, 0, none⟩), .pointer (some ⟨bl, 0, none⟩)] w _
  generalize F st kind s last = y at *
  go_enter Try.func85, Try.ntmps85
  go_wp2_with fail
  refine HR.out.mono ?_
  rintro e w2 ⟨rfl, hc, hj, ho⟩
  go_wp2
  go_end0
  exact ⟨rfl, hc, HM.out _ hj, ho⟩

/-- What is behind the head of one extension: its kind, its bytes, what is left, the error. -/
def headS (had : List Int) (s : List UInt8) : Int × List UInt8 × List UInt8 × Int :=
  let u := rU s 0 2
  let v := vecS u.2.1 u.2.2 2 0 65535
  (u.1, v.1, v.2.1, if u.1 ∈ had then rm v.2.2 3 else v.2.2)
/-- All of them. -/
def extsL (F : σ → Int → List UInt8 → Bool → σ × List UInt8 × Int) : Nat → σ → List Int → List UInt8 → Int → σ × List UInt8 × Int
  | 0, st, _, s, bad => (st, s, bad)
  | n + 1, st, had, s, bad => if s = [] ∨ bad ≠ 0 then (st, s, bad) else
    let h := headS had s
    let y := F st h.1 h.2.1 (decide (h.2.2.1 = []))
    extsL F n y.1 (h.1 :: had) h.2.2.1 (insB h.2.2.2 y.2)
theorem extsL_stop (F : σ → Int → List UInt8 → Bool → σ × List UInt8 × Int) (n : Nat) (st : σ) (had : List Int) (s : List UInt8) (bad : Int) (h : s = [] ∨ bad ≠ 0) : extsL F n st had s bad = (st, s, bad) := by
  cases n with
  | zero => rfl
  | succ n => unfold extsL; rw [if_pos h]
theorem extsL_go (F : σ → Int → List UInt8 → Bool → σ × List UInt8 × Int) (n : Nat) (st : σ) (had : List Int) (s : List UInt8) (h : s ≠ []) : extsL F (n + 1) st had s 0 = extsL F n (F st (headS had s).1 (headS had s).2.1 (decide ((headS had s).2.2.1 = []))).1 ((headS had s).1 :: had) (headS had s).2.2.1 (insB (headS had s).2.2.2 (F st (headS had s).1 (headS had s).2.1 (decide ((headS had s).2.2.1 = []))).2) := by
  conv => lhs; unfold extsL
  rw [if_neg (by simp [h])]

theorem rm_ne {b e : Int} (h : e ≠ 0) : rm b e ≠ 0 := by unfold rm; split <;> simp_all
theorem rm_bad {b e : Int} (h : b ≠ 0) : rm b e ≠ 0 := by unfold rm; rw [if_neg h]; exact h
theorem insB_bad {b : Int} {y : List UInt8 × Int} (h : b ≠ 0) : insB b y ≠ 0 := by unfold insB; split; exact h; exact rm_bad h
/-- A head takes a byte, or notes an error. -/
theorem headS_less (had : List Int) (s : List UInt8) (hs : s ≠ []) : (headS had s).2.2.1.length + 1 ≤ s.length ∨ (headS had s).2.2.2 ≠ 0 := by
  by_cases h : (rU s 0 2).2.2 = 0
  · left
    have h1 := vecS_left (rU s 0 2).2.1 (rU s 0 2).2.2 2 0 65535
    have h2 : (rU s 0 2).2.1.length + 1 ≤ s.length := by
      unfold rU at h ⊢
      simp only at h ⊢
      have h0 : s.length ≠ 0 := by simpa using hs
      unfold leftS
      rw [if_pos h, List.length_drop]
      simp
      omega
    unfold headS
    simp only
    omega
  · right
    have h1 : (vecS (rU s 0 2).2.1 (rU s 0 2).2.2 2 0 65535).2.2 ≠ 0 := by
      generalize rU s 0 2 = u at h ⊢
      obtain ⟨a, s1, b1⟩ := u
      simp only at h ⊢
      unfold vecS
      simp only
      have hb : badS s1 (wb b1 2) 2 ≠ 0 := badS_ne (by unfold wb; rw [if_pos (by omega)]; exact h)
      rw [if_neg (fun hh => (badS_ne hb) hh.1)]
      simp only
      exact badS_ne hb
    unfold headS
    simp only
    split
    · exact rm_bad h1
    · exact h1
theorem headS_left (had : List Int) (s : List UInt8) : (headS had s).2.2.1.length ≤ s.length := Nat.le_trans (vecS_left _ _ _ _ _) (rU_left _ _ _)
theorem headS_out (had : List Int) (s : List UInt8) : (headS had s).2.1.length ≤ s.length := Nat.le_trans (vecS_out _ _ _ _ _) (rU_left _ _ _)

/-- What the loop over them keeps. -/
structure LB (At : World → (Nat → Prop) → σ → Prop) (kf : FuncId) (q0 : Nat) (w0 : World) (ra b bm bf : Nat) (S : Nat → Prop) (st : σ) (had : List Int) (wx : World) : Prop where
  at' : At wx S st
  had' : HadAt wx b had
  cm : Var wx bm 129 (.map (some b))
  cf : Var wx bf 100 (.func (.func kf) #[rp q0] #[])
  ho : Only (fun k => k = ra ∨ k = q0 ∨ k = b) w0 wx
theorem LB.step {kf : FuncId} {q0 : Nat} {At : World → (Nat → Prop) → σ → Prop} {F : σ → Int → List UInt8 → Bool → σ × List UInt8 × Int} (X : Ext kf q0 At F) {w0 wx wy : World} {ra b bm bf : Nat} {S : Nat → Prop} {st : σ} {had : List Int}
    (h : LB At kf q0 w0 ra b bm bf S st had wx) (ho : Only (· = ra) wx wy) (h1 : ¬ S ra) (h2 : ra ≠ q0) (h3 : ra ≠ b) (h4 : ra ≠ bm) (h5 : ra ≠ bf) : LB At kf q0 w0 ra b bm bf S st had wy :=
  ⟨X.only _ _ _ _ _ h.at' ho (fun k hk => by subst hk; exact ⟨h1, h2⟩), h.had'.only ho (fun e => h3 e.symm), h.cm.only ho (fun e => h4 e.symm), h.cf.only ho (fun e => h5 e.symm), h.ho.then (ho.mono (fun _ _ h => .inl h))⟩

theorem only_var (r : Nat → Prop) (w : World) (t : Nat) (z v : Value) : Only r w ((w.alloc (.cells #[z] t)).setCell ⟨w.heap.size, 0, none⟩ v) := ((Only.refl r w).alloc _).setCell _ _ (.inr (Nat.le_refl _))
theorem Var.made (w : World) (t : Nat) (z v : Value) : Var ((w.alloc (.cells #[z] t)).setCell ⟨w.heap.size, 0, none⟩ v) w.heap.size t v := by
  have h := Var.new w t z
  generalize w.alloc (.cells #[z] t) = w1 at *
  unfold Var at *
  simp [World.setCell, Array.getElem?_modify, h]

/-- The last step of a round: the extension's inside. -/
theorem ext_in (X : Ext kf q0 At F) {w0 w5 : World} {ra ga b bm bf bk g' : Nat} {SL : Nat → Prop} {st : σ} {had : List Int} {kind : Int} {last : Bool} {bs s2 : List UInt8} {b3 : Int} {p : Option Addr} {c : Nat}
    (hL : LB At kf q0 w0 ra b bm bf SL st had w5) (hO : Own w5 g' (.slice p bs.length c) bs) (hC : Cur w5 ra ga s2 b3) (hV : Var w5 bk 3 (.int .i64 kind))
    (h1 : ¬ SL ra) (h2 : ¬ SL q0) (h3 : ¬ SL b) (h4 : ∀ k, ra < k → SL k) (hq : q0 < ra) (hb : b < ra) (hbm : bm < ra) (hbf : bf < ra) (hbq : b ≠ q0) (hbmq : bm ≠ q0) (hbfq : bf ≠ q0) (hga : q0 < ga) (hs : bs.length ≤ 140737488355328) (hk0 : 0 ≤ kind) (hk1 : kind < 4294967296) :
    Calls Try.prog 84 #[rp ra, .slice p bs.length c, .func (.func 85) #[] #[.pointer (some ⟨bf, 0, none⟩), .pointer (some ⟨bk, 0, none⟩), .pointer (some ⟨w5.heap.size, 0, none⟩)]] (w5.alloc (.cells #[.bool last] 4))
      (fun e w7 => e = .returned ret0 ∧ LB At kf q0 w0 ra b bm bf SL (F st kind bs last).1 had w7 ∧ Cur w7 ra ga s2 (insB b3 (F st kind bs last).2)) := by
  have hra := hC.lt
  obtain ⟨w6, hw6⟩ : ∃ w6, w6 = w5.alloc (.cells #[.bool last] 4) := ⟨_, rfl⟩
  have hB6 : Below w5.heap.size w5 w6 := by rw [hw6]; exact (Below.refl _ _).alloc (Nat.le_refl _) _
  have hO6 : ∀ r, Only r w5 w6 := fun r => Only.of_below hB6
  have hsz : w6.heap.size = w5.heap.size + 1 := by rw [hw6]; exact World.size_alloc _ _
  have hVl : Var w6 w5.heap.size 4 (.bool last) := by rw [hw6]; exact Var.new _ _ _
  have hVk : Var w6 bk 3 (.int .i64 kind) := hV.below hB6
  have hL6 := hL.step X (hO6 _) h1 (by omega) (by omega) (by omega) (by omega)
  rw [← hw6]
  have hpc : p = none → c = 0 := by obtain ⟨p', c', he, _, _, _, hp, _⟩ := hO.form; cases he; exact hp
  have hA7 : ∀ w', Below w6.heap.size w6 w' → At w' (fun k => SL k ∧ k < w6.heap.size) st := fun w' hb => X.only _ _ _ (fun _ => False) _ (X.mono _ _ _ _ hL6.at' (fun k hk h => ⟨h, hk⟩)) (Only.of_below hb) (fun _ h => h.elim)
  refine (inside_c ra ga s2 b3 (· = g') p bs.length c bs _ _ _ _ _ _ w6 (hC.only (hO6 (fun _ => False)) (fun h => h) (fun h => h)) (Own.keep hO hB6).rd rfl hpc hs
    (fun w' hb => ⟨hA7 w' hb, (hL6.cf.below hb).c, (hVk.below hb).c, (hVl.below hb).c⟩) (fun w1 w2 hj ho => X.only _ _ _ _ _ hj ho (fun k hk => by subst hk; exact ⟨h1, by omega⟩))
    (ext2_c X w6.heap.size SL st kind last bf bk w5.heap.size bs h2 (fun k hk => h4 k (by omega)) (by omega) hs hk0 hk1) (by omega) (by omega)).mono ?_
  rintro e w7 ⟨rfl, hc7, hj7, ho7⟩
  have hoo : Only (fun k => k = ra ∨ k = q0 ∨ k = b) w6 w7 := ho7.mono (fun k _ h => by rcases h with h | h; exact .inl h; exact .inr (.inl h))
  refine ⟨rfl, ⟨hj7, hL6.had'.only ho7 (by rintro (h | h); omega; exact hbq h), hL6.cm.only ho7 (by rintro (h | h); omega; exact hbmq h), hL6.cf.only ho7 (by rintro (h | h); omega; exact hbfq h), hL6.ho.then hoo⟩, hc7⟩

set_option maxHeartbeats 4000000 in
set_option maxRecDepth 100000 in
theorem ext1_c (X : Ext kf q0 At F) (M : Nat) (S : Nat → Prop) (st0 : σ) (b bm bf : Nat) (s0 : List UInt8) (hS : ¬ S q0) (hSM : ∀ k, M ≤ k → S k) (hq : q0 < M) (hb : b < M) (hbm : bm < M) (hbf : bf < M) (hbq : b ≠ q0) (hbmq : bm ≠ q0) (hbfq : bf ≠ q0) (hbbm : b ≠ bm) (hbbf : b ≠ bf) (hSb : ¬ S b) (hs : s0.length ≤ 70368744177664) :
    Reads M 81 #[.pointer (some ⟨bm, 0, none⟩), .pointer (some ⟨bf, 0, none⟩)] (fun w => At w (fun k => S k ∧ k < M) st0 ∧ HadAt w b [] ∧ Var w bm 129 (.map (some b)) ∧ Var w bf 100 (.func (.func kf) #[rp q0] #[])) s0 (extsL F (s0.length + 1) st0 [] s0 0).2 (fun w => At w S (extsL F (s0.length + 1) st0 [] s0 0).1) (fun k => k = q0 ∨ k = b) := by
  refine ⟨knownE1, fun ra ga w h1 h2 h3 hI hc => ?_⟩
  obtain ⟨hA, hH, cm, cf⟩ := hI
  obtain ⟨Y, hY⟩ : ∃ Y, Y = extsL F (s0.length + 1) st0 [] s0 0 := ⟨_, rfl⟩
  rw [← hY]
  obtain ⟨SL, hSL⟩ : ∃ SL : Nat → Prop, SL = fun k => S k ∧ k ≠ ra ∧ k ≠ b := ⟨_, rfl⟩
  have hSLr : ¬ SL ra := by rw [hSL]; rintro ⟨_, h, _⟩; exact h rfl
  have hSLq : ¬ SL q0 := by rw [hSL]; rintro ⟨h, _⟩; exact hS h
  have hSLb : ¬ SL b := by rw [hSL]; rintro ⟨_, _, h⟩; exact h rfl
  have hSLM : ∀ k, ra < k → SL k := by rw [hSL]; intro k hk; exact ⟨hSM k (by omega), by omega, by omega⟩
  have hSLS : ∀ k, SL k → S k := by rw [hSL]; intro k hk; exact hk.1
  have hL0 : LB At kf q0 w ra b bm bf SL st0 [] w := ⟨X.mono _ _ _ _ hA (fun k _ hk => by rw [hSL]; exact ⟨hk.1, by omega, fun e => hSb (e ▸ hk.1)⟩), hH, cm, cf, Only.refl _ _⟩
  have hra := hc.lt
  have H0 := Lib.hid (And.intro hL0 (And.intro hc hY))
  have HSL := Lib.hid (And.intro hSLr (And.intro hSLq (And.intro hSLb (And.intro hSLM hSLS))))
  clear hA hH cm cf hL0 hc hY hSL hSLr hSLq hSLb hSLM hSLS hS hSM hSb
  show Calls Try.prog _ #[rp ra, .pointer (some ⟨bm, 0, none⟩), .pointer (some ⟨bf, 0, none⟩)] w _
  go_enter Try.func81, Try.ntmps81
  go_wp2_with fail
  go_loopg [4] (s0.length + 1) (fun n v4 wr => ∃ st had s bad, LB At kf q0 w ra b bm bf SL st had wr ∧ Cur wr ra ga s bad ∧ extsL F n st had s bad = Y ∧ (bad = 0 → s.length < n) ∧ s.length ≤ s0.length ∧ had.length + s.length ≤ s0.length + (if bad = 0 then 0 else 1))
  case atStart => exact ⟨st0, [], s0, 0, H0.out.1, H0.out.2.1, H0.out.2.2.symm, fun _ => by omega, Nat.le_refl _, by simp⟩
  case round =>
    obtain ⟨st, had, s, bad, hL, hC, hE, hn, hsl, hhl⟩ := hrel
    have HR := Lib.hid (And.intro hL (And.intro hC (And.intro hE hhl)))
    clear hL hC hE hhl
    by_cases hs0 : s.length = 0
    · obtain rfl : s = [] := List.eq_nil_of_length_eq_zero hs0
      go_wp2_with (first
        | (go_at_call 82; refine (left_c ra ga [] bad _ HR.out.2.1).mono ?_; rintro e w1 ⟨rfl, rfl⟩))
      go_end0
      obtain ⟨hL, hC, hE, -⟩ := HR.out
      rw [extsL_stop F gk st had [] bad (.inl rfl)] at hE
      rw [← hE]
      exact ⟨rfl, hC, X.mono _ _ _ _ hL.at' (fun k _ hk => HSL.out.2.2.2.2 k hk), hL.ho⟩
    · have hpos : 0 < s.length := by omega
      have hposI : (0 : Int) < (s.length : Int) := by omega
      by_cases hbad : bad = 0
      · subst hbad
        obtain ⟨m, rfl⟩ : ∃ m, gk = m + 1 := ⟨gk - 1, by have := hn rfl; omega⟩
        have hne : s ≠ [] := by intro h; rw [h] at hs0; exact hs0 rfl
        have hless := headS_less had s hne
        have hleft := headS_left had s
        have hout := headS_out had s
        have hbig := rU_big s 0 2
        have hgo := extsL_go F m st had s hne
        have hE := HR.out.2.2.1
        rw [hgo] at hE
        have hwf : (Lit.int .i64 (rU s 0 2).1).wf = true := WalkArith.wf_i64 (by omega)
        have hhd : headS had s = ((rU s 0 2).1, (vecS (rU s 0 2).2.1 (rU s 0 2).2.2 2 0 65535).1, (vecS (rU s 0 2).2.1 (rU s 0 2).2.2 2 0 65535).2.1, if (rU s 0 2).1 ∈ had then rm (vecS (rU s 0 2).2.1 (rU s 0 2).2.2 2 0 65535).2.2 3 else (vecS (rU s 0 2).2.1 (rU s 0 2).2.2 2 0 65535).2.2) := rfl
        have HU := Lib.hid (ruint_c ra ga s 0 2)
        have hvl := rU_left s 0 2
        obtain ⟨u, hu⟩ : ∃ u, u = rU s 0 2 := ⟨_, rfl⟩
        rw [← hu] at hbig hwf hhd HU hvl
        obtain ⟨kind, s1, b1⟩ := u
        simp only at hbig hwf hhd HU hvl
        have HV := Lib.hid (fun wx (h : Cur wx ra ga s1 b1) => vector_c ra ga s1 b1 2 0 65535 wx h (by omega))
        obtain ⟨v, hv⟩ : ∃ v, v = vecS s1 b1 2 0 65535 := ⟨_, rfl⟩
        rw [← hv] at hhd HV
        obtain ⟨bs, s2, b2⟩ := v
        simp only at hhd HV
        obtain ⟨b3, hb3⟩ : ∃ b3, b3 = (if kind ∈ had then rm b2 3 else b2) := ⟨_, rfl⟩
        rw [← hb3] at hhd
        rw [hhd] at hless hleft hout hE
        simp only at hless hleft hout hE
        have HE := Lib.hid (And.intro hE hb3)
        have hn0 : s.length < m + 1 := hn rfl
        clear hu hv hgo hE hhd hb3 hne hs0 hn
        have hlt0 := HR.out.1.had'.lt
        obtain ⟨last, hlast⟩ : ∃ last, last = decide (s2 = []) := ⟨_, rfl⟩
        have hl0 : ((s2.length : Int) == 0) = last := by
          rw [hlast]
          cases s2 with
          | nil => rfl
          | cons a t => simp; omega
        have HL := Lib.hid hlast
        rw [← hlast] at HE
        clear hlast
        have HIN := Lib.hid (fun (w5 : World) (g' bk : Nat) (p : Option Addr) (c : Nat) (h : LB At kf q0 w ra b bm bf SL st (kind :: had) w5 ∧ Own w5 g' (.slice p bs.length c) bs ∧ Cur w5 ra ga s2 b3 ∧ Var w5 bk 3 (.int .i64 kind)) =>
          ext_in X (last := last) h.1 h.2.1 h.2.2.1 h.2.2.2 HSL.out.1 HSL.out.2.1 HSL.out.2.2.1 HSL.out.2.2.2.1 (by omega) (by omega) (by omega) (by omega) hbq hbmq hbfq (by omega) (by omega) hbig.1 hbig.2)
        have hup : ∀ (w4 w5 : World) (bk g' : Nat) (p : Option Addr) (c : Nat), (LB At kf q0 w ra b bm bf SL st had w4 ∧ Own w4 g' (.slice p bs.length c) bs ∧ Cur w4 ra ga s2 b3 ∧ Var w4 bk 3 (.int .i64 kind)) → HadAt w5 b (kind :: had) → Only (· = b) w4 w5 → bk ≠ b → g' ≠ b → ga ≠ b →
            LB At kf q0 w ra b bm bf SL st (kind :: had) w5 ∧ Own w5 g' (.slice p bs.length c) bs ∧ Cur w5 ra ga s2 b3 ∧ Var w5 bk 3 (.int .i64 kind) := by
          rintro w4 w5 bk g' p c ⟨hL, hO, hc, hv⟩ hh ho h5 h6 h7
          exact ⟨⟨X.only _ _ _ _ _ hL.at' ho (fun k hk => by subst hk; exact ⟨HSL.out.2.2.1, hbq⟩), hh, hL.cm.only ho (by omega), hL.cf.only ho (by omega), hL.ho.then (ho.mono (fun _ _ h => .inr (.inr h)))⟩, hO.only ho h6, hc.only ho (by omega) h7, hv.only ho h5⟩
        have HUP := Lib.hid hup
        have hvs : ∀ (w1 w3 : World) {g' : Nat} {p : Option Addr} {c : Nat}, LB At kf q0 w ra b bm bf SL st had w1 → Own w3 g' (.slice p bs.length c) bs → Cur w3 ra ga s2 b2 → Only (· = ra) (w1.alloc (.cells #[.int .i64 kind] 3)) w3 → ra < w1.heap.size →
            LB At kf q0 w ra b bm bf SL st had w3 ∧ Own w3 g' (.slice p bs.length c) bs ∧ Cur w3 ra ga s2 b2 ∧ Var w3 w1.heap.size 3 (.int .i64 kind) := by
          intro w1 w3 g' p c hL hO hc ho hlt
          refine ⟨(hL.step X ((Only.refl (fun k => k = ra) w1).alloc _) HSL.out.1 (by omega) (by omega) (by omega) (by omega)).step X ho HSL.out.1 (by omega) (by omega) (by omega) (by omega), hO, hc, (Var.new w1 _ _).only ho (by omega)⟩
        have HVS := Lib.hid hvs
        have hfs : ∀ (w3 w4 : World) (bk g' : Nat) (p : Option Addr) (c : Nat), (LB At kf q0 w ra b bm bf SL st had w3 ∧ Own w3 g' (.slice p bs.length c) bs ∧ Cur w3 ra ga s2 b2 ∧ Var w3 bk 3 (.int .i64 kind)) → Cur w4 ra ga s2 (rm b2 3) → Only (· = ra) w3 w4 → bk ≠ ra → g' ≠ ra →
            LB At kf q0 w ra b bm bf SL st had w4 ∧ Own w4 g' (.slice p bs.length c) bs ∧ Cur w4 ra ga s2 (rm b2 3) ∧ Var w4 bk 3 (.int .i64 kind) := by
          rintro w3 w4 bk g' p c ⟨hL, hO, hc, hv⟩ hc2 ho h5 h6
          exact ⟨hL.step X ho HSL.out.1 (by omega) (by omega) (by omega) (by omega), hO.only ho h6, hc2, hv.only ho h5⟩
        have HFS := Lib.hid hfs
        clear hvs hfs hup
        have hhl := HR.out.2.2.2
        rw [if_pos rfl] at hhl
        have hhad : had.length ≤ 70368744177664 := by omega
        have HHL := Lib.hid hhl
        clear hhl
        by_cases hk : kind ∈ had
        · have hkd : decide (kind ∈ had) = true := decide_eq_true hk
          have hb3 : b3 = rm b2 3 := by rw [HE.out.2, if_pos hk]
          subst hb3
          go_wp2_with (first
            | (at_lookup; refine wpList_lookup_had _ rfl _ _ rfl b had kind rfl rfl H2.out.1.had' hwf ?_; rw [hkd])
            | (at_mapUpdate; refine wpList_update_had _ rfl _ _ _ rfl b had kind rfl rfl rfl H3.out.1.had' hwf (by unfold maxLen; omega) ?_; intro w5 hH5 ho5; have H5 := Lib.hid (HUP.out _ w5 w1.heap.size g' p c H3.out hH5 ho5 (by omega) (by omega) (by omega)); clear hH5 ho5)
            | (go_at_call 82; have hq := H5; refine (left_c ra ga s2 _ _ H5.out.2.2.1).mono ?_; rintro e wl ⟨rfl, rfl⟩)
            | (go_at_call 82; refine (left_c ra ga s 0 _ HR.out.2.1).mono ?_; rintro e w1 ⟨rfl, rfl⟩)
            | (go_at_call 83; refine (isWrong_c ra ga s 0 _ HR.out.2.1).mono ?_; rintro e w1 ⟨rfl, rfl⟩)
            | (go_at_call 46; refine (HU.out _ HR.out.2.1).mono ?_; rintro e w1 ⟨rfl, hc, ho⟩; have hs1 := HR.out.1.ho.size; have hs2 := ho.size; have H1 := Lib.hid (And.intro (HR.out.1.step X ho HSL.out.1 (by omega) (by omega) (by omega) (by omega)) hc); clear hc ho)
            | (go_at_call 45; refine (HV.out _ (H1.out.2.only ((Only.refl (fun _ => False) w1).alloc _) (fun h => h) (fun h => h))).mono ?_; rintro e w3 ⟨g', p, c, rfl, hg', hO, hc, ho⟩; rw [World.size_alloc] at hg'; have H2 := Lib.hid (HVS.out w1 w3 H1.out.1 hO hc ho (by have := H1.out.2.lt; omega)); have c1 := H2.out.1.cm.c; have c2 := H2.out.2.2.2.c; clear hO hc ho)
            | (go_at_call 49; refine (fail_c ra ga s2 b2 _ H2.out.2.2.1).mono ?_; rintro e w4 ⟨rfl, hc, ho⟩; have H3 := Lib.hid (HFS.out w3 w4 w1.heap.size g' p c H2.out hc ho (by have := H1.out.2.lt; omega) (by have := H1.out.2.lt; omega)); have d1 := H3.out.1.cm.c; have d2 := H3.out.2.2.2.c; clear hc ho)
            | (go_at_call 84; refine (HIN.out w5 g' w1.heap.size p c H5.out).mono ?_; rintro e w7 ⟨rfl, hL7, hc7⟩))
          go_roundg m
          case measure => omega
          case rel =>
            refine ⟨_, kind :: had, s2, _, hL7, hc7, ?_, ?_, by omega, ?_⟩
            · exact HE.out.1
            · intro h0
              rcases hless with h | h
              · omega
              · exact absurd h0 (insB_bad h)
            · have h9 := HHL.out
              rcases hless with h | h
              · rw [List.length_cons]; split <;> omega
              · rw [if_neg (insB_bad h), List.length_cons]; omega
        · have hkd : decide (kind ∈ had) = false := decide_eq_false hk
          have hb3 : b3 = b2 := by rw [HE.out.2, if_neg hk]
          subst hb3
          go_wp2_with (first
            | (at_lookup; refine wpList_lookup_had _ rfl _ _ rfl b had kind rfl rfl H2.out.1.had' hwf ?_; rw [hkd])
            | (at_mapUpdate; refine wpList_update_had _ rfl _ _ _ rfl b had kind rfl rfl rfl H3.out.1.had' hwf (by unfold maxLen; omega) ?_; intro w5 hH5 ho5; have H5 := Lib.hid (HUP.out _ w5 w1.heap.size g' p c H3.out hH5 ho5 (by omega) (by omega) (by omega)); clear hH5 ho5)
            | (go_at_call 82; have hq := H5; refine (left_c ra ga s2 _ _ H5.out.2.2.1).mono ?_; rintro e wl ⟨rfl, rfl⟩)
            | (go_at_call 82; refine (left_c ra ga s 0 _ HR.out.2.1).mono ?_; rintro e w1 ⟨rfl, rfl⟩)
            | (go_at_call 83; refine (isWrong_c ra ga s 0 _ HR.out.2.1).mono ?_; rintro e w1 ⟨rfl, rfl⟩)
            | (go_at_call 46; refine (HU.out _ HR.out.2.1).mono ?_; rintro e w1 ⟨rfl, hc, ho⟩; have hs1 := HR.out.1.ho.size; have hs2 := ho.size; have H1 := Lib.hid (And.intro (HR.out.1.step X ho HSL.out.1 (by omega) (by omega) (by omega) (by omega)) hc); clear hc ho)
            | (go_at_call 45; refine (HV.out _ (H1.out.2.only ((Only.refl (fun _ => False) w1).alloc _) (fun h => h) (fun h => h))).mono ?_; rintro e w3 ⟨g', p, c, rfl, hg', hO, hc, ho⟩; rw [World.size_alloc] at hg'; have H2 := Lib.hid (HVS.out w1 w3 H1.out.1 hO hc ho (by have := H1.out.2.lt; omega)); have H3 := H2; have c1 := H2.out.1.cm.c; have c2 := H2.out.2.2.2.c; clear hO hc ho)
            | (go_at_call 84; refine (HIN.out w5 g' w1.heap.size p c H5.out).mono ?_; rintro e w7 ⟨rfl, hL7, hc7⟩))
          go_roundg m
          case measure => omega
          case rel =>
            refine ⟨_, kind :: had, s2, _, hL7, hc7, ?_, ?_, by omega, ?_⟩
            · exact HE.out.1
            · intro h0
              rcases hless with h | h
              · omega
              · exact absurd h0 (insB_bad h)
            · have h9 := HHL.out
              rcases hless with h | h
              · rw [List.length_cons]; split <;> omega
              · rw [if_neg (insB_bad h), List.length_cons]; omega
      · have hbb : (bad != 0) = true := by simpa using hbad
        have hbd : decide (bad ≠ 0) = true := decide_eq_true hbad
        go_wp2_with (first
          | (go_at_call 82; refine (left_c ra ga s bad _ HR.out.2.1).mono ?_; rintro e w1 ⟨rfl, rfl⟩)
          | (go_at_call 83; refine (isWrong_c ra ga s bad _ HR.out.2.1).mono ?_; rintro e w1 ⟨rfl, rfl⟩))
        go_end0
        obtain ⟨hL, hC, hE, -⟩ := HR.out
        rw [extsL_stop F gk st had s bad (.inr hbad)] at hE
        rw [← hE]
        exact ⟨rfl, hC, X.mono _ _ _ _ hL.at' (fun k _ hk => HSL.out.2.2.2.2 k hk), hL.ho⟩

set_option maxHeartbeats 4000000 in
set_option maxRecDepth 100000 in
theorem exts_c (X : Ext kf q0 At F) (S : Nat → Prop) (st : σ) (r g : Nat) (s : List UInt8) (bad : Int) (w : World) (hA : At w S st) (hC : Cur w r g s bad) (hSq : ¬ S q0) (hSr : ¬ S r) (hrq : r ≠ q0) (hgq : g ≠ q0) (hs : s.length ≤ 70368744177664) :
    Calls Try.prog 47 #[rp r, .func (.func kf) #[rp q0] #[]] w (ReadsR w r g ((vecS s bad 2 0 65535).2.1, insB (vecS s bad 2 0 65535).2.2 (extsL F ((vecS s bad 2 0 65535).1.length + 1) st [] (vecS s bad 2 0 65535).1 0).2) (fun w' => At w' (fun k => S k ∨ w.heap.size ≤ k) (extsL F ((vecS s bad 2 0 65535).1.length + 1) st [] (vecS s bad 2 0 65535).1 0).1) (· = q0)) := by
  have hmm := @run_makeMap Try.prog
  have hvo := vecS_out s bad 2 0 65535
  have hq0 := X.lt _ _ _ hA
  have hrl := hC.lt
  have hgl := hC.glt
  obtain ⟨w1, hw1⟩ : ∃ w1, w1 = w.alloc (.cells #[.func (.func kf) #[rp q0] #[]] 100) := ⟨_, rfl⟩
  obtain ⟨w2, hw2⟩ : ∃ w2, w2 = w1.alloc (.map #[] 0) := ⟨_, rfl⟩
  obtain ⟨w3, hw3⟩ : ∃ w3, w3 = w2.alloc (.cells #[.map (some (w.heap.size + 1))] 129) := ⟨_, rfl⟩
  have hz1 : w1.heap.size = w.heap.size + 1 := by rw [hw1]; exact World.size_alloc _ _
  have hz2 : w2.heap.size = w.heap.size + 2 := by rw [hw2, World.size_alloc, hz1]
  have hz3 : w3.heap.size = w.heap.size + 3 := by rw [hw3, World.size_alloc, hz2]
  have hV1 : Var w1 w.heap.size 100 (.func (.func kf) #[rp q0] #[]) := by rw [hw1]; exact Var.new _ _ _
  have hH2 : HadAt w2 (w.heap.size + 1) [] := by rw [hw2, ← hz1]; exact HadAt.new _
  have hV3 : Var w3 (w.heap.size + 2) 129 (.map (some (w.heap.size + 1))) := by rw [hw3, ← hz2]; exact Var.new _ _ _
  have ho1 : Only (fun _ => False) w w1 := by rw [hw1]; exact (Only.refl _ _).alloc _
  have ho2 : Only (fun _ => False) w1 w2 := by rw [hw2]; exact (Only.refl _ _).alloc _
  have ho3 : Only (fun _ => False) w2 w3 := by rw [hw3]; exact (Only.refl _ _).alloc _
  have ho := (ho1.then ho2).then ho3
  have hA3 := X.only _ _ _ _ _ (X.mono w S (fun k => S k ∧ k < w.heap.size) _ hA (fun k hk h => ⟨h, hk⟩)) ho (fun _ h => h.elim)
  have hC3 := hC.only ho (fun h => h) (fun h => h)
  have hH3 := hH2.only ho3 (fun h => h)
  have hV1' := (hV1.only ho2 (fun h => h)).only ho3 (fun h => h)
  obtain ⟨v, hv⟩ : ∃ v, v = vecS s bad 2 0 65535 := ⟨_, rfl⟩
  have hE1 := ext1_c X w3.heap.size (fun k => (S k ∧ k < w.heap.size) ∨ w3.heap.size ≤ k) st (w.heap.size + 1) (w.heap.size + 2) w.heap.size v.1 (by rintro (⟨h, _⟩ | h); exact hSq h; omega) (fun k hk => .inr hk) (by omega) (by omega) (by omega) (by omega) (by omega) (by omega) (by omega) (by omega) (by omega) (by rintro (⟨_, h⟩ | h) <;> omega) (by rw [hv]; omega)
  have HIN := within_c r g s bad 2 _ _ _ _ _ _ w3 hC3 (by omega)
    (fun w' ho' => ⟨X.only w3 w' (fun k => ((S k ∧ k < w.heap.size) ∨ w3.heap.size ≤ k) ∧ k < w3.heap.size) _ _ (X.mono _ _ (fun k => ((S k ∧ k < w.heap.size) ∨ w3.heap.size ≤ k) ∧ k < w3.heap.size) _ hA3 (fun k hk h => ⟨.inl h, hk⟩)) ho' (fun k hk => by subst hk; exact ⟨by rintro ⟨⟨h, _⟩ | h, _⟩; exact hSr h; omega, hrq⟩), hH3.only ho' (by omega), hV3.only ho' (by omega), hV1'.only ho' (by omega)⟩)
    (fun wa wb hj ho' => X.only _ _ _ _ _ hj ho' (fun k hk => by subst hk; exact ⟨by rintro (⟨h, _⟩ | h); exact hSr h; omega, hrq⟩))
    (hv ▸ hE1) (by rintro (h | h); exact hrq h; omega) (by rintro (h | h); exact hgq h; omega)
  rw [← hv]
  rw [← hv] at HIN
  have HN := Lib.hid (And.intro HIN (And.intro ho hSq))
  clear hV1 hH2 hV3 ho1 ho2 ho3 ho hA3 hC3 hH3 hV1' hE1 HIN hv hvo hA hC hSq hSr
  go_enter Try.func47, Try.ntmps47
  go_upto_region 2 with (fail)
  rw [← hw1, ← hw2, ← hw3]
  clear hw1 hw2 hw3
  go_wp2_with (go_at_call 80; refine HN.out.1.mono ?_; rintro e w4 ⟨rfl, hc4, hj4, ho4⟩)
  go_end0
  refine ⟨rfl, hc4, X.mono _ _ _ _ hj4 (fun k hk h => ?_), (HN.out.2.1.mono (fun _ _ h => h.elim)).trans ho4 (fun _ h => h) (fun k hk h => ?_)⟩
  · rcases h with h | h
    · exact .inl h.1
    · exact .inr (by omega)
  · rcases h with h | h | h
    · exact .inl h
    · exact .inr h
    · omega
end
end Go.Proofs.Ytegmimnhkohaoaa
/-
  Steps of a region that draws its order: min, append of bytes that lie somewhere, append of zeros. Conditions: those of each.
-/
namespace Go.Kx
open Go.RowKit

/-- A builtin's call as one step of a region that draws its order. -/
theorem step_builtin {P : Program} {ops : Array Oper} {w : World} {o : Oper} {a : Act} {K : Act → World → Prop} {Q : Exit → Act → World → Prop} {E : Prop} (hgd : o.guard = none) (s x : Operand) (t u : TypeId)
    (ho : o.op = .call { callee := .builtin .append, args := #[s, x], argTypes := #[t, u] }) (v y : Value) (hs : a.eval s = v) (hx : a.eval x = y) {v' : Value} {w' : World}
    (hr : (Builtin.append_ #[t, u] o.type #[v, y]).run P w = .ok v' w') (h : K (a.put o.dst v') w') :
    if Region.wanted o (yielded ops a.tmps) = true then Oper.wp P o a w K Q else E := by
  have hw : Region.wanted o (yielded ops a.tmps) = true := by simp [Region.wanted, hgd]
  rw [if_pos hw]
  unfold Oper.wp execOp
  simp only [ho, resolve, invoke, builtin, Sem.run_bind, Sem.run_pure, Result.andThen_ok, List.map_toArray, List.map_cons, List.map_nil, hs, hx, hr]
  exact h

theorem run_min {P : Program} (w : World) (ts : Array TypeId) (t : TypeId) (n c : Int) : (Builtin.min_ ts t #[.int .i64 n, .int .i64 c]).run P w = .ok (.int .i64 (min n c)) w := by
  have h : Builtin.min2 (.int .i64 n) (.int .i64 c) = pure (.int .i64 (min n c)) := by
    unfold Builtin.min2
    show pure (Value.int .i64 (if c < n then c else n)) = _
    congr 2
    split <;> omega
  simp [Builtin.min_, h, Sem.run_pure]

/-- min(n, c) of ints as one step. -/
theorem step_min {P : Program} {ops : Array Oper} {w : World} {o : Oper} {a : Act} {K : Act → World → Prop} {Q : Exit → Act → World → Prop} {E : Prop} (hgd : o.guard = none) (s x : Operand) (t u : TypeId)
    (ho : o.op = .call { callee := .builtin .min, args := #[s, x], argTypes := #[t, u] }) (n c m : Int) (hs : a.eval s = .int .i64 n) (hx : a.eval x = .int .i64 c) (hm : min n c = m) (h : K (a.put o.dst (.int .i64 m)) w) :
    if Region.wanted o (yielded ops a.tmps) = true then Oper.wp P o a w K Q else E := by
  have hw : Region.wanted o (yielded ops a.tmps) = true := by simp [Region.wanted, hgd]
  subst hm
  rw [if_pos hw]
  unfold Oper.wp execOp
  simp only [ho, resolve, invoke, builtin, Sem.run_bind, Sem.run_pure, Result.andThen_ok, List.map_toArray, List.map_cons, List.map_nil, hs, hx, run_min]
  exact h

/-- append of bytes that lie somewhere, as a run. -/
theorem run_append_bytes {P : Program} (w : World) (t ty : TypeId) (ht : P.underlying t = some (.slice 5)) (hi : (P.info? 5).map (fun i => (i.zero, i.size, i.bytes)) = some (some (.int .u8 0), 1, 1))
    (g : Nat) (v : Value) (l : List UInt8) (hown : Own w g v l) (S : Nat → Prop) (p : Option Addr) (m c : Nat) (news : List UInt8) (hm : news.length = m) (hnil : p = none → c = 0) (hn : Rd w S p news) (hbytes : l.length + news.length ≤ 140737488355328) :
    ∃ g' v' w', (Builtin.append_ #[t, t] ty #[v, .slice p m c]).run P w = .ok v' w' ∧ Own w' g' v' (l ++ news) ∧ (g' = g ∨ g' = w.heap.size) ∧ Only (· = g) w w' := by
  subst hm
  cases p with
  | none =>
    have hl := hn.none_nil
    subst hl
    rw [hnil rfl]
    obtain ⟨i, hi0, hz0, hz1, hz2⟩ := info_parts hi
    have hrun := run_append_owned_none (P := P) (w := w) 0 t ty 5 i 1 ht hi0 v l.length (l.map B8) hown.1
    exact ⟨g, v, w, hrun, by simpa using hown, .inl rfl, Only.refl _ _⟩
  | some ad =>
    have hnews : ∀ j u, (news.map B8)[j]? = some u → w.cell? (ad.add j) = some u := by
      intro j u hu
      simp only [List.getElem?_map, Option.map_eq_some_iff] at hu
      obtain ⟨b, hb, rfl⟩ := hu
      obtain ⟨hj, rfl⟩ := List.getElem?_eq_some_iff.1 hb
      obtain ⟨a', ha', _, hc'⟩ := hn j hj
      cases ha'
      exact hc'
    obtain ⟨g', v', w', hr, hrow, hg', hgr, hnl⟩ := run_append_row (P := P) w t ty 5 (.int .u8 0) 1 1 ht hi rfl (by decide) g v l.length (l.map B8) hown ad news.length c (news.map B8) (by simp) hnews (oneCell_map _) (by unfold maxLen; omega) (by omega)
    refine ⟨g', v', w', hr, ?_, hg', ?_⟩
    · unfold Own; simpa using hrow
    · exact (Only.of_grown hgr).mono fun k _ hk => by
        rcases hown.2 with h | h
        · rw [h] at hk; cases hk
        · rw [h] at hk; cases hk; rfl

theorem zeroCells_one (x : Value) (n : Nat) : Builtin.zeroCells #[x] n = (List.replicate n x).toArray := by
  unfold Builtin.zeroCells
  apply Array.ext
  · simp
  · intro i h1 h2
    simp
    rw [show i % 1 = 0 from by omega]
    rfl

theorem map_zeros (k : Nat) : (List.replicate k (0 : UInt8)).map B8 = List.replicate k (.int .u8 0) := by rw [List.map_replicate]; rfl

/-- append(s, make([]byte, k)...): s the call's own. -/
theorem run_append_zeros {P : Program} (w : World) (t tn ty : TypeId) (kq kn : IntKind) (ht : P.underlying t = some (.slice 5)) (htn : P.underlying tn = some (.int kn))
    (hinfo : (P.info? 5).map (fun i => (i.zero, i.size, i.bytes)) = some (some (.int .u8 0), 1, 1)) (g : Nat) (v : Value) (l : List UInt8) (hown : Own w g v l) (k : Nat) (hb : l.length + k ≤ 140737488355328) :
    ∃ g' v' w', (Builtin.append_ #[t, tn] ty #[v, .int kq k]).run P w = .ok v' w' ∧ Own w' g' v' (l ++ List.replicate k 0) ∧ (g' = g ∨ g' = w.heap.size) ∧ Only (· = g) w w' := by
  obtain ⟨i, hi, hz, hz1, hz2⟩ := info_parts hinfo
  have hw : IntKind.i64.wrap (k : Int) = k := by rw [IntKind.wrap_i64]; omega
  have hneg : ¬ ((k : Int) < 0) := by omega
  have h48i : ¬ (281474976710656 < (k : Int) * (i.bytes : Int)) := by rw [hz2]; omega
  obtain ⟨⟨hlen, hcase⟩, hgb⟩ := hown
  have hown : Own w g v l := ⟨⟨hlen, hcase⟩, hgb⟩
  by_cases h0 : k = 0
  · subst h0
    refine ⟨g, v, w, ?_, by simpa using hown, .inl rfl, Only.refl _ _⟩
    rcases hcase with ⟨rfl, hn⟩ | ⟨g0, cap, cur, rfl, hbb, hg, hnc, hcm, hcs, htake⟩
    · simp [Builtin.append_, run_underlying ht, run_underlying htn, sizeOf, typeInfo, hi, asInt, asIntOf, IntKind.wrap_i64]
    · simp [Builtin.append_, run_underlying ht, run_underlying htn, sizeOf, typeInfo, hi, asInt, asIntOf, IntKind.wrap_i64, hnc, storeCells]
  · have hns : ¬ (k * i.size = 0) := by rw [hz1]; omega
    have grown : ∀ (old : Nat), old < l.length + k → ∀ ws : World, ws = w.drew.alloc (.cells ((l.map B8).toArray ++ Builtin.zeroCells #[.int .u8 0] k ++ Builtin.zeroCells #[.int .u8 0] (grownCap w (l.length + k) old 5 - (l.length + k))) 5) →
        Own ws w.heap.size (.slice (some ⟨w.heap.size, 0, none⟩) (l.length + k) (grownCap w (l.length + k) old 5)) (l ++ List.replicate k 0) ∧ Only (· = g) w ws := by
      intro old ho ws hws
      subst hws
      have hge := grownCap_ge w (l.length + k) old 5
      have hcm : grownCap w (l.length + k) old 5 ≤ maxLen := grownCap_le_maxLen w (l.length + k) old 5 (by unfold maxLen; omega)
      refine ⟨⟨⟨by simp, .inr ⟨w.heap.size, _, _, by simp, Nat.zero_le _, heap_alloc_new w.drew _, by simpa using hge, hcm, ?_, ?_⟩⟩, .inr rfl⟩, (Only.refl _ _).drew.alloc _⟩
      · simp only [Array.size_append, List.size_toArray, List.length_map, zeroCells_one, List.length_replicate]; omega
      · simp only [zeroCells_one, Array.toList_append, List.append_assoc]
        rw [List.map_append, map_zeros, ← List.append_assoc]
        apply List.take_left'
        simp
    rcases hcase with ⟨rfl, hn⟩ | ⟨g0, cap, cur, rfl, hbb, hg, hnc, hcm, hcs, htake⟩
    · have hl : l = [] := List.length_eq_zero_iff.1 hn
      subst hl
      have hr := Lib.run_append_grow_zeros (P := P) w t tn ty 5 i (.int .u8 0) kq kn ht htn hi hz none 0 0 [] (by simp [Builtin.firstCells, Sem.run_pure]) k (by omega) (by omega) (by omega) (by omega) (by rw [hz2]; omega) (by rw [hz2]; exact growslice_fits (by omega) (by omega))
      obtain ⟨ho, hO⟩ := grown 0 (by simp; omega) _ rfl
      simp only [List.length_nil, Nat.zero_add, show (Value.int .u8 0).cells = #[Value.int .u8 0] from rfl] at ho hO hr
      exact ⟨w.heap.size, _, _, hr, by simpa using ho, .inr rfl, by simpa using hO⟩
    · have hgg : g0 = g := by simpa [Value.ownBlock] using hgb
      subst hgg
      by_cases hroom : l.length + k ≤ cap
      · have hst := run_storeCells_at P g0 (l.length * 1) 5 (List.replicate k (.int .u8 0)) 0 cur w hg (by simp; omega) (by intro u hu; rw [List.mem_replicate] at hu; rw [hu.2]; rfl)
        simp only [Nat.add_zero, Nat.mul_one] at hst
        refine ⟨g0, .slice (some ⟨g0, 0, none⟩) (l.length + k) cap, w.setRow g0 (cur.toList.take l.length ++ List.replicate k (Value.int .u8 0) ++ cur.toList.drop (l.length + k)).toArray, ?_, ?_, .inl rfl, ?_⟩
        · simp [Builtin.append_, run_underlying ht, run_underlying htn, sizeOf, typeInfo, zeroValue, hi, hz, hz1, asInt, asIntOf, hw, hneg, h48i, hroom, zeroCells_one, Addr.add_lit, Value.cells, h0]
          simp only [List.length_replicate, List.append_assoc] at hst
          rw [hst]
          rfl
        · refine ⟨⟨by simp, .inr ⟨g0, cap, _, by simp, Nat.zero_le _, setRow_heap w g0 cur _ 5 _ hg, by simpa using hroom, hcm, ?_, ?_⟩⟩, .inr rfl⟩
          · simp; omega
          · rw [List.map_append, map_zeros, ← htake]
            simp only [Nat.mul_one]
            apply List.take_left'
            simp; omega
        · exact ⟨rfl, rfl, rfl, by simp [World.setRow], fun x _ hx => setRow_other w g0 x _ hx⟩
      · have holds : ∀ j u, (l.map B8)[j]? = some u → w.drew.cell? ((⟨g0, 0, none⟩ : Addr).add j) = some u := World.ownsRow.cells (w := w) hown.1 (g := g0) rfl
        have hr := Lib.run_append_grow_zeros (P := P) w t tn ty 5 i (.int .u8 0) kq kn ht htn hi hz (some ⟨g0, 0, none⟩) l.length cap (l.map B8)
          (run_firstCells_some (P := P) w.drew i.size l.length ⟨g0, 0, none⟩ l.length cap (l.map B8) (by rw [hz1]; simp) holds) k (by omega) (by omega) (by omega) (by omega) (by rw [hz2]; omega) (by rw [hz2]; exact growslice_fits (by omega) (by omega))
        obtain ⟨ho, hO⟩ := grown cap (by omega) _ rfl
        exact ⟨w.heap.size, _, _, hr, ho, .inr rfl, hO⟩
end Go.Kx
