/-
  append of one byte that is written out, onto a row of the call's own. Of any program; conditions: those of each theorem.
-/
import Derived.Test.YtegmimnhkohaoaaCurD
import Derived.Test.YtegmimnhkohaoaaW64
namespace Go.Kx
open Go.RowKit
theorem Own.row {w : World} {g n : Nat} {v : Value} {l : List UInt8} (h : Own w g v l) (hn : l.length = n) : Row w 5 1 g v n (l.map B8) := by subst hn; exact h
/-- What stays below, behind an append of one byte. -/
theorem app_below {w0 w w' : World} {N g : Nat} {o : Obj} (hB : Below N w0 w) (hg : N ≤ g) (hs : N ≤ w.heap.size) (hO : Only (· = g) (w.alloc o) w') : Below N w0 w' :=
  below_only (hB.alloc hs o) (by simp; omega) hO (by intro x hx e; omega)
theorem cell_one' (w : World) (x : Value) (t : TypeId) : ∀ j u, [x][j]? = some u → (w.alloc (.cells #[x] t)).cell? ((⟨w.heap.size, 0, none⟩ : Addr).add j) = some u := by
  intro j u hu
  cases j with
  | zero => simp at hu; subst hu; simp [Addr.add, World.cell?_alloc_at]
  | succ j => simp at hu

theorem wpList_append_byte {P : Program} {w : World} {ops : Array Oper} {rest : List Oper} {o : Oper} {a : Act} {Q : Exit → Act → World → Prop} (hgd : o.guard = none) (s x : Operand) (t : TypeId)
    (ho : o.op = .call { callee := .builtin .append, args := #[s, x], argTypes := #[t, t] })
    (ht : P.underlying t = some (.slice 5)) (hi : (P.info? 5).map (fun i => (i.zero, i.size, i.bytes)) = some (some (.int .u8 0), 1, 1))
    (g : Nat) (v : Value) (l : List UInt8) (hs : a.eval s = v) (hown : Own w g v l) (X : Int) (b : UInt8) (hX : X = (b.toNat : Int))
    (hx : a.eval x = .slice (some ⟨w.heap.size, 0, none⟩) 1 1) (hb : l.length + 1 ≤ 140737488355328)
    (h : ∀ g' c' w', Own w' g' (.slice (some ⟨g', 0, none⟩) (l.length + 1) c') (l ++ [b]) → (g' = g ∨ g' = w.heap.size + 1) → g' < w'.heap.size → l.length + 1 ≤ c' → c' ≤ maxLen → Only (· = g) (w.alloc (.cells #[.int .u8 X] 5)) w' → wpList P ops Q rest (a.put o.dst (.slice (some ⟨g', 0, none⟩) (l.length + 1) c')) w') :
    wpList P ops Q (o :: rest) a (w.alloc (.cells #[.int .u8 X] 5)) := by
  subst hX
  refine wpList_append_row hgd s x t ho 5 (.int .u8 0) 1 1 ht hi rfl (by decide) g v l.length (l.map B8) hs (Row.only (hown.row rfl) ((Only.refl (fun _ => False) w).alloc _) (fun h => h)) ⟨w.heap.size, 0, none⟩ 1 1 [B8 b] hx rfl (cell_one' w _ _) (by simp [Value.oneCell']) (by unfold maxLen; omega) (by omega) (w.heap.size + 1) (by simp) ?_
  intro g' v' w' hrow hg' hO
  have hw : Own w' g' v' (l ++ [b]) := by unfold Own; rw [List.length_append, List.map_append]; exact hrow
  obtain ⟨p, c, rfl, h1, h2, h3, h4, h5⟩ := hw.form
  cases p with
  | none => have h0 := h3.none_nil; simp at h0
  | some ad =>
    obtain ⟨rfl, hl⟩ := h5 ad rfl
    have e : (l ++ [b]).length = l.length + 1 := by simp
    rw [e] at hw h1 ⊢
    exact h g' c w' hw hg' hl h1 h2 hO
/-- A quiet call behind draws that were made ahead. -/
theorem quiet_on {P : Program} {f : FuncId} {args : Array Value} {w : World} {a n : Nat} {v : Value} (h : Calls P f args (w.drewN (a + n)) fun e w' => e = .returned v ∧ w' = w.drewN (a + n)) :
    Calls P f args (w.drewN (a + n)) fun e w'' => e = .returned v ∧ ∃ m, w'' = w.drewN (a + m) := h.mono fun _ _ h => ⟨h.1, n, h.2⟩
theorem Only.of_belowN {N : Nat} {w w' : World} (h : Below N w w') : Only (fun k => N ≤ k) w w' := ⟨h.os, h.tape, h.output, h.size, fun k _ hn => h.block k (by omega)⟩
end Go.Kx
