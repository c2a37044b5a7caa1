/-
  The contract of relayref08.clientExt at whatever kind. Condition: at most 2 to the 46th bytes.
-/
import Derived.Test.YtegmimnhkohaoaaZRfG
namespace Go.Proofs.Ytegmimnhkohaoaa
open Go.RowKit Go.Kx
set_option linter.unusedVariables false
set_option linter.unusedSimpArgs false
set_option maxRecDepth 100000

/-- A Client of the document while its extensions are read: what was not read yet is nil. -/
def RAt (q0 : Nat) (w : World) (S : Nat → Prop) (had : List Int) (st : Cl) : Prop :=
  ∃ z, CB w q0 S st z ∧ (51 ∉ had → z.p6 = none ∧ z.n6 = 0 ∧ z.c6 = 0) ∧ (41 ∉ had → (z.p9 = none ∧ z.n9 = 0 ∧ z.c9 = 0) ∧ z.p10 = none ∧ z.n10 = 0 ∧ z.c10 = 0)
section
variable {w w' : World} {q0 : Nat} {S T X : Nat → Prop} {had : List Int} {st : Cl}
theorem RAt.only (h : RAt q0 w S had st) (ho : Only X w w') (hX : ∀ k, X k → ¬ S k ∧ k ≠ q0) : RAt q0 w' S had st := by
  obtain ⟨z, h1, h2⟩ := h
  exact ⟨z, h1.only ho hX, h2⟩
theorem RAt.mono (h : RAt q0 w S had st) (hT : ∀ k, k < w.heap.size → S k → T k) : RAt q0 w T had st := by
  obtain ⟨z, h1, h2⟩ := h
  exact ⟨z, h1.mono hT, h2⟩
theorem RAt.lt (h : RAt q0 w S had st) : q0 < w.heap.size := by
  obtain ⟨z, h1, _⟩ := h
  exact h1.b.lt
end
theorem rclient_ext (q0 : Nat) (w : World) (S : Nat → Prop) (had : List Int) (st : Cl) (gb : Nat) (p : Option Addr) (c : Nat) (s : List UInt8) (kind : Int) (last : Bool) (hA : RAt q0 w S had st) (hk : kind ∉ had) (hS0 : ¬ S q0) (hO : Own w gb (.slice p s.length c) s) (hgb : gb ≠ q0) (gx : Nat) (hgx : gx < w.heap.size) (hgx0 : gx ≠ q0) (hl : s.length ≤ 140737488355328) :
    Calls Try.prog 104 #[rp q0, .int .i64 kind, .slice p s.length c, .bool last] w (fun e w' => e = .returned (.bool (rcliF st kind s last).2) ∧ RAt q0 w' (fun k => S k ∨ w.heap.size ≤ k) (had ++ [kind]) (rcliF st kind s last).1 ∧ Only (· = q0) w w') := by
  obtain ⟨z, h1, h6, h9⟩ := hA
  have key : ∀ y e w', RceN q0 S w z y e w' → e = .returned (.bool y.2) ∧ RAt q0 w' (fun k => S k ∨ w.heap.size ≤ k) (had ++ [kind]) y.1 ∧ Only (· = q0) w w' := by
    rintro y e w' ⟨he, ⟨z', hz, e1, e2, e3, e4, e5, e6, e7, e8, e9⟩, ho⟩
    refine ⟨he, ⟨z', hz, fun hn => ?_, fun hn => ?_⟩, ho⟩
    · rw [e1, e2, e3]
      exact h6 (fun h => hn (by simp [h]))
    · rw [e4, e5, e6, e7, e8, e9]
      exact h9 (fun h => hn (by simp [h]))
  by_cases k1 : kind = 43
  · subst k1; exact (rce43 q0 w S st z gb p c s last h1 hS0 hO hgb gx hgx hgx0 hl).mono (fun e w' h => key _ e w' h)
  by_cases k2 : kind = 10
  · subst k2; exact (rce10 q0 w S st z gb p c s last h1 hS0 hO hgb gx hgx hgx0 hl).mono (fun e w' h => key _ e w' h)
  by_cases k3 : kind = 13
  · subst k3; exact (rce13 q0 w S st z gb p c s last h1 hS0 hO hgb gx hgx hgx0 hl).mono (fun e w' h => key _ e w' h)
  by_cases k5 : kind = 44
  · subst k5; exact (rce44 q0 w S st z gb p c s last h1 hS0 hO hgb gx hgx hgx0 hl).mono (fun e w' h => key _ e w' h)
  by_cases k6 : kind = 45
  · subst k6; exact (rce45 q0 w S st z gb p c s last h1 hS0 hO hgb gx hgx hgx0 hl).mono (fun e w' h => key _ e w' h)
  by_cases k4 : kind = 51
  · subst k4
    obtain ⟨a1, a2, a3⟩ := h6 hk
    refine (rce51 q0 w S st z gb p c s last h1 hS0 hO hgb gx hgx hgx0 hl a1 a2 a3).mono ?_
    rintro e w' ⟨he, ⟨z', hz, e4, e5, e6, e7, e8, e9⟩, ho⟩
    refine ⟨he, ⟨z', hz, fun hn => absurd (by simp) hn, fun hn => ?_⟩, ho⟩
    rw [e4, e5, e6, e7, e8, e9]
    exact h9 (fun h => hn (by simp [h]))
  by_cases k7 : kind = 41
  · subst k7
    obtain ⟨⟨a1, a2, a3⟩, a4, a5, a6⟩ := h9 hk
    refine (rce41 q0 w S st z gb p c s last h1 hS0 hO hgb gx hgx hgx0 hl a1 a2 a3 a4 a5 a6).mono ?_
    rintro e w' ⟨he, ⟨z', hz, e1, e2, e3⟩, ho⟩
    refine ⟨he, ⟨z', hz, fun hn => ?_, fun hn => absurd (by simp) hn⟩, ho⟩
    rw [e1, e2, e3]
    exact h6 (fun h => hn (by simp [h]))
  exact (rceOther q0 w S st z gb p c s last h1 hS0 hO hgb gx hgx hgx0 hl kind k1 k2 k3 k4 k5 k6 k7).mono (fun e w' h => key _ e w' h)
end Go.Proofs.Ytegmimnhkohaoaa
