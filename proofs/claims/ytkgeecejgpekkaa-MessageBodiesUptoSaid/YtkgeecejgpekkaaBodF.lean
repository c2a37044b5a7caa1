/-
  The six Puts of MessageBodies, each told once for all arguments: the bytes, and whether there are any. Conditions: those of each.
-/
import Derived.Test.YtkgeecejgpekkaaBodE
namespace Go.Proofs.Ytkgeecejgpekkaa
open Go.RowKit Go.Kx
set_option linter.unusedVariables false

/-- The bytes that are told. -/
def told (ok : Prop) [Decidable ok] (X : List UInt8) : List UInt8 := if ok then X else []
/-- The error. -/
def errN (ok : Prop) [Decidable ok] : Int := if ok then 0 else 1

def UMine (w : World) (A : List UInt8) (E : Int) (e : Ending) (w' : World) : Prop := ∃ p n c, e = .returned (.tuple #[.slice p n c, .int .i64 E]) ∧ A.length = n ∧ Rd w' (fun _ => True) p A ∧ (p = none → c = 0) ∧ Below w.heap.size w w'
def URef (w : World) (A : List UInt8) (B : Bool) (e : Ending) (w' : World) : Prop := ∃ p n c, e = .returned (.tuple #[.slice p n c, .bool B]) ∧ A.length = n ∧ Rd w' (fun _ => True) p A ∧ (p = none → c = 0) ∧ Below w.heap.size w w'

theorem umine {w w' : World} {x : WS} {ok : Prop} [Decidable ok] {X : List UInt8} {e : Ending} (h : BRes w x e w') (hy : ok → x = (X, false)) (hn : ¬ ok → x.2 = true) : UMine w (told ok X) (errN ok) e w' := by
  unfold told errN
  by_cases hk : ok
  · rw [if_pos hk, if_pos hk]
    have hx := hy hk
    subst hx
    exact h.1 rfl
  · rw [if_neg hk, if_neg hk]
    obtain ⟨rfl, hb⟩ := h.2 (hn hk)
    exact ⟨none, 0, 0, rfl, rfl, Rd.nil _ _ _, fun _ => rfl, hb⟩
theorem uref {w w' : World} {ok : Prop} [Decidable ok] {X : List UInt8} {e : Ending} (h : RRes w ok X e w') : URef w (told ok X) (decide ok) e w' := by
  unfold told
  by_cases hk : ok
  · rw [if_pos hk, decide_eq_true hk]
    exact h.1 hk
  · rw [if_neg hk, decide_eq_false hk]
    obtain ⟨rfl, hb⟩ := h.2 hk
    exact ⟨none, 0, 0, rfl, rfl, Rd.nil _ _ _, fun _ => rfl, hb⟩

theorem putChain_u (a : Option Addr) (n c : Nat) (l : List (List UInt8)) (w : World) (h : Ch w a n l) (ht : tot l ≤ 35184372088832) (hc : n ≤ c ∧ c ≤ maxLen) : Calls Try.prog 11 #[.slice a n c] w (UMine w (told (okC l) (chX l)) (errN (okC l))) :=
  (putChain_c a n c l w h ht hc).mono fun _ _ h => umine h putC_ok putC_no
theorem rputChain_u (a : Option Addr) (n c : Nat) (l : List (List UInt8)) (w : World) (h : Ch w a n l) (hc : n ≤ c ∧ c ≤ maxLen) : Calls Try.prog 12 #[.slice a n c] w (URef w (told (okC l) (chX l)) (decide (okC l))) :=
  (rputChain_c a n c l w h hc).mono fun _ _ h => uref h
theorem putNew_u (li ad : Int) (p1 p2 : Option Addr) (n1 c1 n2 c2 : Nat) (no tk : List UInt8) (w : World) (R1 : Rd w (fun _ => True) p1 no) (l1 : no.length = n1) (z1 : p1 = none → c1 = 0) (R2 : Rd w (fun _ => True) p2 tk) (l2 : tk.length = n2) (z2 : p2 = none → c2 = 0) (hb : n1 + n2 ≤ 140737488355000) :
    Calls Try.prog 13 #[.agg #[.int .i64 li, .int .i64 ad, .slice p1 n1 c1, .slice p2 n2 c2]] w (UMine w (told (okN li ad no tk) (nwX li ad no tk)) (errN (okN li ad no tk))) :=
  (putNew_c li ad p1 p2 n1 c1 n2 c2 no tk w R1 l1 z1 R2 l2 z2 hb).mono fun _ _ h => umine h putN_ok putN_no
theorem rputNew_u (li ad : Int) (p1 p2 : Option Addr) (n1 c1 n2 c2 : Nat) (no tk : List UInt8) (w : World) (R1 : Rd w (fun _ => True) p1 no) (l1 : no.length = n1) (z1 : p1 = none → c1 = 0) (R2 : Rd w (fun _ => True) p2 tk) (l2 : tk.length = n2) (z2 : p2 = none → c2 = 0) :
    Calls Try.prog 14 #[.agg #[.int .i64 li, .int .i64 ad, .slice p1 n1 c1, .slice p2 n2 c2]] w (URef w (told (okN li ad no tk) (nwX li ad no tk)) (decide (okN li ad no tk))) :=
  (rputNew_c li ad p1 p2 n1 c1 n2 c2 no tk w R1 l1 z1 R2 l2 z2).mono fun _ _ h => uref h
theorem putVerify_u (sc : Int) (p2 : Option Addr) (n2 c2 : Nat) (sg : List UInt8) (w : World) (R2 : Rd w (fun _ => True) p2 sg) (l2 : sg.length = n2) (z2 : p2 = none → c2 = 0) (hb : n2 ≤ 140737488355000) :
    Calls Try.prog 15 #[.int .i64 sc, .slice p2 n2 c2] w (UMine w (told (okY sc sg) (vfX sc sg)) (errN (okY sc sg))) :=
  (putVerify_c sc p2 n2 c2 sg w R2 l2 z2 hb).mono fun _ _ h => umine h putY_ok putY_no
theorem rputVerify_u (sc : Int) (p2 : Option Addr) (n2 c2 : Nat) (sg : List UInt8) (w : World) (R2 : Rd w (fun _ => True) p2 sg) (l2 : sg.length = n2) (z2 : p2 = none → c2 = 0) :
    Calls Try.prog 16 #[.int .i64 sc, .slice p2 n2 c2] w (URef w (told (okY sc sg) (vfX sc sg)) (decide (okY sc sg))) :=
  (rputVerify_c sc p2 n2 c2 sg w R2 l2 z2).mono fun _ _ h => uref h
end Go.Proofs.Ytkgeecejgpekkaa
