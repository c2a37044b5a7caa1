/-
  The contract of PutVector of package cursor. Conditions: together at most 2 to the 47th bytes.
-/
import Derived.Test.YtegmimnhkohaoaaCurD
namespace Go.Proofs.Ytegmimnhkohaoaa
open Go.RowKit Go.Kx

theorem vec_no (v : Value) (p2 : Option Addr) (m2 c2 : Nat) (width : Int) (w : World) (h : ¬ putOk (m2 : Int) width) : Calls Try.prog 68 #[v, .slice p2 m2 c2, .int .i64 width] w (PutNo w) := by
  have q := qbytes
  go_enter Try.func68, Try.ntmps68
  go_wp2_with (first | (go_at_call 67; refine (put_no _ (m2 : Int) width _ h).mono ?_; rintro e w' ⟨rfl, hB⟩))
  go_ret
  exact ⟨rfl, hB⟩

theorem vec_yes (S S2 : Nat → Prop) (p p2 : Option Addr) (m c m2 c2 : Nat) (l v : List UInt8) (W : Nat) (w : World) (hR : Rd w S p l) (hp : p = none → c = 0) (hm : l.length = m) (hR2 : Rd w S2 p2 v) (hp2 : p2 = none → c2 = 0) (hm2 : v.length = m2)
    (hl : l.length + 4 + v.length ≤ 140737488355328) (hW : 1 ≤ W ∧ W ≤ 4) (hn : m2 < 256 ^ W) :
    Calls Try.prog 68 #[.slice p m c, .slice p2 m2 c2, .int .i64 (W : Int)] w (PutYes w (l ++ be m2 W ++ v)) := by
  have q := qbytes
  have HN := Lib.hid hn
  clear hn
  go_enter Try.func68, Try.ntmps68
  go_wp2_with (first
    | (go_at_call 67; refine (put_yes S _ _ _ l m2 W _ hR hp (by omega) hm hW HN.out).mono ?_; rintro e w' ⟨g, n1, c', rfl, hn1, h1, h2, h3, h4, h5, h6⟩)
    | (at_builtin; refine wpList_append_bytes _ rfl _ _ 23 rfl Try.underlying23 Try.info5 g _ (l ++ be m2 W) rfl h5 S2 _ _ _ v rfl hm2 hp2 (hR2.below h6) (by rw [List.length_append, be_length]; omega) ?_; intro g' vx w2 ho' hg' hg hnil))
  have hn0 : vx ≠ .slice none 0 0 := fun e => by rcases hnil.1 e with h | h <;> exact absurd h.1 (by intro h2; cases h2)
  clear hnil
  obtain ⟨c3, rfl, k1, k2, k3⟩ := ho'.shape hn0
  go_wp2
  go_ret
  exact ⟨g', _, c3, rfl, rfl, by have := h6.size; omega, k3, k1, k2, ho', below_only h6 h6.size hg (by intro k hk e; omega)⟩
end Go.Proofs.Ytegmimnhkohaoaa
