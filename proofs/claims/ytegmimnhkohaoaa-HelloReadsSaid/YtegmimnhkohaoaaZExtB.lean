/-
  A greeting with an extension more at its end, in plain; a Client without tickets. No condition but those that each theorem states.
-/
import Derived.Test.YtegmimnhkohaoaaZg7
import Derived.Test.YtegmimnhkohaoaaZRpB
namespace Go.Proofs.Ytegmimnhkohaoaa
open Go.RowKit Go.Kx
set_option linter.unusedVariables false
set_option linter.unusedSimpArgs false
set_option maxRecDepth 100000

def headL (s : Cl) : List UInt8 := ((([3, 3] ++ s.R) ++ vecL 1 s.ses) ++ vecL 2 (lstL s.suites)) ++ [1, 0]
theorem headL_len (s : Cl) (hR : s.R.length = 32) : (headL s).length = 35 + s.ses.length + 2 + 2 * s.suites.length + 2 := by
  unfold headL
  simp only [List.length_append, vecL_len, lstL_len, hR, List.length_cons, List.length_nil]
  omega
theorem greetL_head (s : Cl) (E : List UInt8) (h : E.length < 65536) : greetL s E = headL s ++ ([b8 ((E.length : Int) / 256), b8 (E.length : Int)] ++ E) := by
  unfold greetL headL vecL
  rw [← u16L_nat _ h]
  simp only [List.append_assoc]
  rfl
theorem set_two (P E : List UInt8) (a b x y : UInt8) : ((P ++ ([a, b] ++ E)).set P.length x).set (P.length + 1) y = P ++ ([x, y] ++ E) := by
  induction P with
  | nil => rfl
  | cons p r ih => exact congrArg (p :: ·) ih
theorem greetL_more (s : Cl) (E X : List UInt8) (h : E.length + X.length < 65536) :
    ((greetL s E).set (headL s).length (b8 (((E.length : Int) + (X.length : Int)) / 256))).set ((headL s).length + 1) (b8 ((E.length : Int) + (X.length : Int))) ++ X = greetL s (E ++ X) := by
  rw [greetL_head s E (by omega), greetL_head s (E ++ X) (by rw [List.length_append]; omega), set_two, List.length_append, Int.natCast_add]
  simp only [List.append_assoc]
theorem greetL_at (s : Cl) (E : List UInt8) (h : E.length < 65536) : (greetL s E)[(headL s).length]? = some (b8 ((E.length : Int) / 256)) ∧ (greetL s E)[(headL s).length + 1]? = some (b8 (E.length : Int)) := by
  rw [greetL_head s E h]
  refine ⟨?_, ?_⟩
  · rw [List.getElem?_append_right (Nat.le_refl _)]; simp
  · rw [List.getElem?_append_right (by omega)]; simp
def bareC (s : Cl) : Cl := { s with ids := [], bnd := [] }
def bareZ (z : Z10) : Z10 := { z with p9 := none, n9 := 0, c9 := 0, p10 := none, n10 := 0, c10 := 0 }
theorem FitR.bare {s : Cl} (h : FitR s) : FitR (bareC s) := ⟨h.f1, h.f2, h.f3, h.f4, h.f5, (fun t ht => nomatch ht), (fun t ht => nomatch ht)⟩
theorem IsCl.bare {w : World} {S : Nat → Prop} {s : Cl} {z : Z10} (h : IsCl w S s z) : IsCl w S (bareC s) (bareZ z) :=
  ⟨h.len, h.s1, h.s2, h.s3, h.s4, h.s5, h.s6, h.s7, h.s8, ⟨rfl, fun i hi => absurd hi (Nat.not_lt_zero _), fun _ => rfl, Nat.le_refl _, Nat.zero_le _⟩, ⟨rfl, fun i hi => absurd hi (Nat.not_lt_zero _), fun _ => rfl, Nat.le_refl _, Nat.zero_le _⟩⟩
theorem clV_bare (s : Cl) (z : Z10) (h : s.R.length = 32) : ((clV s z).setIfInBounds 40 (.slice none 0 0)).setIfInBounds 41 (.slice none 0 0) = clV (bareC s) (bareZ z) := by
  apply Array.ext'
  rw [Array.toList_setIfInBounds, Array.toList_setIfInBounds]
  unfold clV clL bareC bareZ
  simp only []
  have hl : (s.R.map B8).length = 32 := by rw [List.length_map, h]
  rw [List.set_append_right _ _ (by omega), List.set_append_right _ _ (by omega), hl]
  rfl
theorem RK.bare {w wx : World} {M : Nat} {s : Cl} {z : Z10} (h : RK w M s z wx) : RK w M (bareC s) (bareZ z) ((wx.setCell ⟨w.heap.size, 40, none⟩ (.slice none 0 0)).setCell ⟨w.heap.size, 41, none⟩ (.slice none 0 0)) := by
  have ho : Only (· = w.heap.size) wx ((wx.setCell ⟨w.heap.size, 40, none⟩ (.slice none 0 0)).setCell ⟨w.heap.size, 41, none⟩ (.slice none 0 0)) := ((Only.refl (fun j => j = w.heap.size) wx).setCell _ _ (.inl rfl)).setCell _ _ (.inl rfl)
  refine ⟨?_, (h.i.only ho (fun k hk e => by have := h.hM; omega)).bare, below_only h.bel h.bel.size ho (fun k hk e => by omega), h.hM⟩
  have hb := h.b
  unfold Blk at hb ⊢
  rw [← clV_bare s z h.i.len]
  simp [World.setCell, Array.getElem?_modify, hb]
end Go.Proofs.Ytegmimnhkohaoaa
