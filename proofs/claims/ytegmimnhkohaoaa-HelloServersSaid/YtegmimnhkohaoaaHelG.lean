/-
  The contracts of package hello's readers that call closures: must, skip, inside, within, extensions. Conditions: at most 2 to the 47th bytes.
-/
import Derived.Test.YtegmimnhkohaoaaHelX
import Derived.Test.YtegmimnhkohaoaaMapB
import Derived.Deep.LoopGhost
import Derived.WalkKit
namespace Go.Proofs.Ytegmimnhkohaoaa
open Go.RowKit Go.Kx
set_option linter.unusedVariables false
set_option linter.unusedSimpArgs false

/-- What Uint tells. -/
def rU (s : List UInt8) (bad W : Int) : Int × List UInt8 × Int := ((beN (outS s (wb bad W) W) : Nat), leftS s (wb bad W) W, badS s (wb bad W) W)
def CurR (w : World) (r g : Nat) (x : List UInt8 × Int) (e : Ending) (w' : World) : Prop := e = .returned ret0 ∧ Cur w' r g x.1 x.2 ∧ Only (· = r) w w'
theorem ruint_c (r g : Nat) (s : List UInt8) (bad W : Int) (w : World) (hr : Cur w r g s bad) : Calls Try.prog 46 #[rp r, .int .i64 W] w fun e w' => e = .returned (.int .i64 (rU s bad W).1) ∧ Cur w' r g (rU s bad W).2.1 (rU s bad W).2.2 ∧ Only (· = r) w w' := uint_c r g s bad W w hr
theorem rU_big (s : List UInt8) (bad W : Int) : 0 ≤ (rU s bad W).1 ∧ (rU s bad W).1 < 4294967296 := by
  have := beN_small _ (out_four s bad W)
  unfold rU
  simp only
  omega
theorem rU_left (s : List UInt8) (bad W : Int) : (rU s bad W).2.1.length ≤ s.length := leftS_le _ _ _
theorem vecS_left (s : List UInt8) (bad W l m : Int) : (vecS s bad W l m).2.1.length ≤ s.length := by
  unfold vecS
  simp only
  split <;> exact Nat.le_trans (leftS_le _ _ _) (leftS_le _ _ _)
theorem vecS_out (s : List UInt8) (bad W l m : Int) : (vecS s bad W l m).1.length ≤ s.length := by
  unfold vecS
  simp only
  split
  · simp
  · exact Nat.le_trans (outS_le _ _ _) (leftS_le _ _ _)

def mustS (s : List UInt8) (bad n W : Int) : List UInt8 × Int := ((rU s bad W).2.1, if (rU s bad W).1 = n then (rU s bad W).2.2 else rm (rU s bad W).2.2 3)
theorem must_c (r g : Nat) (s : List UInt8) (bad n W : Int) (w : World) (hr : Cur w r g s bad) : Calls Try.prog 43 #[rp r, .int .i64 n, .int .i64 W] w (CurR w r g (mustS s bad n W)) := by
  have H := Lib.hid (fun wx (h : Cur wx r g s bad) => ruint_c r g s bad W wx h)
  have hm : mustS s bad n W = ((rU s bad W).2.1, if (rU s bad W).1 = n then (rU s bad W).2.2 else rm (rU s bad W).2.2 3) := rfl
  have HM := Lib.hid hm
  clear hm
  generalize rU s bad W = u at *
  obtain ⟨a, s1, b1⟩ := u
  simp only at H
  by_cases h : a = n
  · have hb : (a != n) = false := by simpa using h
    have HE := Lib.hid h
    clear h
    go_enter Try.func43, Try.ntmps43
    go_wp2_with (first
      | (go_at_call 46; refine (H.out _ hr).mono ?_; rintro e w1 ⟨rfl, hc, ho⟩))
    go_end0
    rw [HM.out]
    simp only [HE.out, if_true]
    exact ⟨rfl, hc, ho⟩
  · have hb : (a != n) = true := by simpa using h
    have HE := Lib.hid h
    clear h
    go_enter Try.func43, Try.ntmps43
    go_wp2_with (first
      | (go_at_call 46; refine (H.out _ hr).mono ?_; rintro e w1 ⟨rfl, hc, ho⟩)
      | (go_at_call 49; refine (fail_c r g _ _ _ hc).mono ?_; rintro e w2 ⟨rfl, hc2, ho2⟩))
    go_end0
    rw [HM.out]
    simp only [HE.out, if_false]
    exact ⟨rfl, hc2, ho.then ho2⟩

def skipS (s : List UInt8) (bad : Int) : List UInt8 × Int := (leftS s bad (s.length : Int), badS s bad (s.length : Int))
theorem skip_c (r g : Nat) (s : List UInt8) (bad : Int) (w : World) (hr : Cur w r g s bad) (hl : s.length ≤ 140737488355328) : Calls Try.prog 86 #[rp r] w (CurR w r g (skipS s bad)) := by
  go_enter Try.func86, Try.ntmps86
  go_wp2_with (first
    | (go_at_call 82; refine (left_c r g s bad _ hr).mono ?_; rintro e w1 ⟨rfl, rfl⟩)
    | (go_at_call 44; refine (bytes_c r g s bad _ _ hr hl).mono ?_; rintro e w2 ⟨g', p, c, rfl, h1, h2, hc, ho⟩))
  go_end0
  exact ⟨rfl, hc, ho⟩

/-- What a closure does that reads all that a new Reader has: from I to J; B: the old blocks that it may change. -/
def ReadsR (w : World) (q g : Nat) (y : List UInt8 × Int) (J : World → Prop) (B : Nat → Prop) (e : Ending) (w' : World) : Prop := e = .returned ret0 ∧ Cur w' q g y.1 y.2 ∧ J w' ∧ Only (fun b => b = q ∨ B b) w w'
def Reads (M : Nat) (k : FuncId) (cap : Array Value) (I : World → Prop) (s : List UInt8) (y : List UInt8 × Int) (J : World → Prop) (B : Nat → Prop) : Prop :=
  Known k ∧ ∀ (q g : Nat) (w' : World), M ≤ q → M ≤ g → M ≤ w'.heap.size → I w' → Cur w' q g s 0 → Calls Try.prog k (#[rp q] ++ cap) w' (ReadsR w' q g y J B)
/-- The error behind it. -/
def insB (bad : Int) (y : List UInt8 × Int) : Int := if doneS y.1 y.2 = 0 then bad else rm bad 3

set_option maxHeartbeats 4000000 in
set_option maxRecDepth 100000 in
theorem inside_c (r g : Nat) (s : List UInt8) (bad : Int) (S : Nat → Prop) (p : Option Addr) (n c : Nat) (b : List UInt8) (k : FuncId) (cap : Array Value) (I J : World → Prop) (y : List UInt8 × Int) (B : Nat → Prop) (w : World)
    (hr : Cur w r g s bad) (hb : Rd w S p b) (hn : b.length = n) (hp : p = none → c = 0) (hl : b.length ≤ 140737488355328) (hI : ∀ w', Below w.heap.size w w' → I w') (hJ : ∀ w1 w2, J w1 → Only (· = r) w1 w2 → J w2)
    (hf : Reads w.heap.size k cap I b y J B) (hBr : ¬ B r) (hBg : ¬ B g) :
    Calls Try.prog 84 #[rp r, .slice p n c, .func (.func k) #[] cap] w (ReadsR w r g (s, insB bad y) J B) := by
  have hkn := hf.1
  unfold Known at hkn
  have hrl := hr.lt
  have hgl := hr.glt
  have HF := Lib.hid (And.intro hf.2 (And.intro hI (And.intro hJ (And.intro hr hb))))
  have hy : insB bad y = if doneS y.1 y.2 = 0 then bad else rm bad 3 := rfl
  have HY := Lib.hid (And.intro hy (And.intro hBr hBg))
  clear hf hI hJ hr hy hb hBr hBg
  go_enter Try.func84, Try.ntmps84
  go_wp2_with (first
    | (go_at_call 42; refine (new_c S p n c b _ HF.out.2.2.2.2 hp hl hn).mono ?_; rintro e w1 ⟨q, g1, rfl, h1, h2, h3, hc, hb1⟩; have H1 := Lib.hid (And.intro hc hb1); clear hc hb1))
  have hs1 := H1.out.2.size
  refine (HF.out.1 q g1 w1 h1 h3 hs1 (HF.out.2.1 _ H1.out.2) H1.out.1).mono ?_
  rintro e w2 ⟨rfl, hc2, hj2, ho2⟩
  have hcr : Cur w2 r g s bad := (HF.out.2.2.2.1.only (Only.of_below (r := fun _ => False) H1.out.2) (fun h => h) (fun h => h)).only ho2 (by rintro (h | h); omega; exact HY.out.2.1 h) (by rintro (h | h); omega; exact HY.out.2.2 h)
  have hoo : Only (fun b => b = r ∨ B b) w w2 := (Only.of_below (r := fun b => b = r ∨ B b) H1.out.2).trans ho2 (fun _ h => h) (fun x hx h => by rcases h with h | h; omega; exact .inr h)
  have H2 := Lib.hid (And.intro hc2 (And.intro hj2 (And.intro hcr hoo)))
  clear hc2 hj2 hcr hoo ho2
  by_cases hd : doneS y.1 y.2 = 0
  · have hx : insB bad y = bad := by rw [HY.out.1, if_pos hd]
    have HX := Lib.hid hx
    clear hx
    go_wp2_with (first
      | (go_at_call 50; refine (done_c q g1 y.1 y.2 _ H2.out.1).mono ?_; rintro e w3 ⟨rfl, rfl⟩))
    go_end0
    rw [HX.out]
    exact ⟨rfl, H2.out.2.2.1, H2.out.2.1, H2.out.2.2.2⟩
  · have hx : insB bad y = rm bad 3 := by rw [HY.out.1, if_neg hd]
    have HX := Lib.hid hx
    have hdb : (doneS y.1 y.2 != 0) = true := by simpa using hd
    clear hx hd
    go_wp2_with (first
      | (go_at_call 50; refine (done_c q g1 y.1 y.2 _ H2.out.1).mono ?_; rintro e w3 ⟨rfl, rfl⟩)
      | (go_at_call 49; refine (fail_c r g s bad _ H2.out.2.2.1).mono ?_; rintro e w4 ⟨rfl, hc4, ho4⟩))
    go_end0
    rw [HX.out]
    exact ⟨rfl, hc4, HF.out.2.2.1 _ _ H2.out.2.1 ho4, H2.out.2.2.2.then (ho4.mono (fun _ _ h => .inl h))⟩

theorem Reads.mono {M N : Nat} {k : FuncId} {cap : Array Value} {I J : World → Prop} {s : List UInt8} {y : List UInt8 × Int} {B : Nat → Prop} (h : Reads M k cap I s y J B) (hN : M ≤ N) : Reads N k cap I s y J B :=
  ⟨h.1, fun q g w' h1 h2 h3 hI hc => h.2 q g w' (by omega) (by omega) (by omega) hI hc⟩

set_option maxHeartbeats 4000000 in
set_option maxRecDepth 100000 in
theorem within_c (r g : Nat) (s : List UInt8) (bad W : Int) (k : FuncId) (cap : Array Value) (I J : World → Prop) (y : List UInt8 × Int) (B : Nat → Prop) (w : World)
    (hr : Cur w r g s bad) (hl : s.length ≤ 140737488355328) (hI : ∀ w', Only (· = r) w w' → I w') (hJ : ∀ w1 w2, J w1 → Only (· = r) w1 w2 → J w2)
    (hf : Reads w.heap.size k cap I (vecS s bad W 0 65535).1 y J B) (hBr : ¬ B r) (hBg : ¬ B g) :
    Calls Try.prog 80 #[rp r, .int .i64 W, .func (.func k) #[] cap] w (ReadsR w r g ((vecS s bad W 0 65535).2.1, insB (vecS s bad W 0 65535).2.2 y) J B) := by
  have hvo := vecS_out s bad W 0 65535
  have HV := Lib.hid (vector_c r g s bad W 0 65535 w hr hl)
  obtain ⟨b, hb⟩ : ∃ b, b = (vecS s bad W 0 65535).1 := ⟨_, rfl⟩
  obtain ⟨s1, hs1⟩ : ∃ b, b = (vecS s bad W 0 65535).2.1 := ⟨_, rfl⟩
  obtain ⟨b1, hb1⟩ : ∃ b, b = (vecS s bad W 0 65535).2.2 := ⟨_, rfl⟩
  rw [← hb, ← hs1, ← hb1] at HV
  rw [← hb] at hvo hf
  rw [← hs1, ← hb1]
  have HF := Lib.hid (And.intro hf (And.intro hI (And.intro hJ (And.intro hBr hBg))))
  clear hf hI hJ hBr hBg hb hs1 hb1 hr
  go_enter Try.func80, Try.ntmps80
  go_wp2_with (first
    | (go_at_call 45; refine (HV.out).mono ?_; rintro e w1 ⟨g', p, c, rfl, h1, hO, hc, ho⟩; have H1 := Lib.hid (And.intro hO (And.intro hc ho)); clear hO hc ho)
    | (go_at_call 84; refine (inside_c r g s1 b1 (· = g') p b.length c b k cap I J y B _ H1.out.2.1 H1.out.1.rd rfl (by obtain ⟨p', c', he, _, _, _, hp, _⟩ := H1.out.1.form; cases he; exact hp) (by omega) (fun w' hb => HF.out.2.1 w' (H1.out.2.2.then (Only.of_below hb))) HF.out.2.2.1 (HF.out.1.mono H1.out.2.2.size) HF.out.2.2.2.1 HF.out.2.2.2.2).mono ?_; rintro e w2 ⟨rfl, hc2, hj2, ho2⟩))
  go_end0
  exact ⟨rfl, hc2, hj2, (H1.out.2.2.mono (fun _ _ h => .inl h)).then ho2⟩
end Go.Proofs.Ytegmimnhkohaoaa
