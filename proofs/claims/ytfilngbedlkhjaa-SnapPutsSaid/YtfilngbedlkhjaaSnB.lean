/-
  A State of package server as a block of 234 cells: what stands in it, what a store makes of it. No condition but those that each theorem states.
-/
import Derived.Test.YtfilngbedlkhjaaSnA
import Derived.Deep.MidRow
import Derived.WalkKit
import Derived.ProofKit
namespace Go.Proofs.Ytfilngbedlkhjaa
open Go.RowKit Go.Kx
set_option linter.unusedVariables false

/-- The cells of a State lie in block r. -/
def StB (w : World) (r : Nat) (t : TypeId) (ph : Int) (lg : Value) (sm : List UInt8) (a b c d : Int) (sl : Bool) (pt us : Value) (al : Int) : Prop :=
  ∃ C, w.heap[r]? = some (.cells C t (0, 0)) ∧ StC C ph lg sm a b c d sl pt us al

theorem only_cell {q : Nat → Prop} {w w' : World} {p : Addr} (h : Only q w w') (hb : p.block < w.heap.size) (hq : ¬ q p.block) : w'.cell? p = w.cell? p := World.cell?_of_block (w := w) (w' := w') (h.block _ hb hq)

section
variable {w w' : World} {r : Nat} {t : TypeId} {ph : Int} {lg : Value} {sm : List UInt8} {a b c d : Int} {sl : Bool} {pt us : Value} {al : Int}

theorem StB.new (w : World) (t : TypeId) {C : Array Value} (h : StC C ph lg sm a b c d sl pt us al) : StB (w.alloc (.cells C t)) w.heap.size t ph lg sm a b c d sl pt us al := ⟨C, heap_alloc_new w _, h⟩
theorem StB.lt (h : StB w r t ph lg sm a b c d sl pt us al) : r < w.heap.size := by obtain ⟨C, hC, _⟩ := h; exact (Array.getElem?_eq_some_iff.1 hC).1
theorem StB.only {q : Nat → Prop} (h : StB w r t ph lg sm a b c d sl pt us al) (ho : Only q w w') (hq : ¬ q r) : StB w' r t ph lg sm a b c d sl pt us al := by
  obtain ⟨C, hC, h⟩ := id h
  exact ⟨C, (ho.block r (StB.lt ⟨C, hC, h⟩) hq).trans hC, h⟩
theorem StB.below (h : StB w r t ph lg sm a b c d sl pt us al) (hb : Below w.heap.size w w') : StB w' r t ph lg sm a b c d sl pt us al := h.only (Only.of_below (r := fun _ => False) hb) (fun h => h)
theorem StB.fr (h : StB w r t ph lg sm a b c d sl pt us al) (o : Nat) : w.frozen? ⟨r, o, none⟩ = false := by
  obtain ⟨C, hC, _⟩ := h
  simp [World.frozen?, hC]
theorem StB.cellC {C : Array Value} (h : w.heap[r]? = some (.cells C t (0, 0))) (o : Nat) : w.cell? ⟨r, o, none⟩ = C[o]? := by simp [World.cell?, h]
theorem StB.c0 (h : StB w r t ph lg sm a b c d sl pt us al) : w.cell? ⟨r, 0, none⟩ = some (.int .i64 ph) := by obtain ⟨C, hC, h⟩ := h; rw [StB.cellC hC]; exact h.e0
theorem StB.c1 (h : StB w r t ph lg sm a b c d sl pt us al) : w.cell? ⟨r, 1, none⟩ = some lg := by obtain ⟨C, hC, h⟩ := h; rw [StB.cellC hC]; exact h.e1
theorem StB.c226 (h : StB w r t ph lg sm a b c d sl pt us al) : w.cell? ⟨r, 226, none⟩ = some (.int .i64 a) := by obtain ⟨C, hC, h⟩ := h; rw [StB.cellC hC]; exact h.e226
theorem StB.c227 (h : StB w r t ph lg sm a b c d sl pt us al) : w.cell? ⟨r, 227, none⟩ = some (.int .i64 b) := by obtain ⟨C, hC, h⟩ := h; rw [StB.cellC hC]; exact h.e227
theorem StB.c228 (h : StB w r t ph lg sm a b c d sl pt us al) : w.cell? ⟨r, 228, none⟩ = some (.int .i64 c) := by obtain ⟨C, hC, h⟩ := h; rw [StB.cellC hC]; exact h.e228
theorem StB.c229 (h : StB w r t ph lg sm a b c d sl pt us al) : w.cell? ⟨r, 229, none⟩ = some (.int .i64 d) := by obtain ⟨C, hC, h⟩ := h; rw [StB.cellC hC]; exact h.e229
theorem StB.c230 (h : StB w r t ph lg sm a b c d sl pt us al) : w.cell? ⟨r, 230, none⟩ = some (.bool sl) := by obtain ⟨C, hC, h⟩ := h; rw [StB.cellC hC]; exact h.e230
theorem StB.c231 (h : StB w r t ph lg sm a b c d sl pt us al) : w.cell? ⟨r, 231, none⟩ = some pt := by obtain ⟨C, hC, h⟩ := h; rw [StB.cellC hC]; exact h.e231
theorem StB.c232 (h : StB w r t ph lg sm a b c d sl pt us al) : w.cell? ⟨r, 232, none⟩ = some us := by obtain ⟨C, hC, h⟩ := h; rw [StB.cellC hC]; exact h.e232
theorem StB.c233 (h : StB w r t ph lg sm a b c d sl pt us al) : w.cell? ⟨r, 233, none⟩ = some (.int .i64 al) := by obtain ⟨C, hC, h⟩ := h; rw [StB.cellC hC]; exact h.e233

theorem heap_setCell {C : Array Value} (h : w.heap[r]? = some (.cells C t (0, 0))) (o : Nat) (v : Value) : (w.setCell ⟨r, o, none⟩ v).heap[r]? = some (.cells (C.setIfInBounds o v) t (0, 0)) := by
  simp [World.setCell, Array.getElem?_modify, h]

/-- Cells of which one is another one. -/
theorem StC.put {C : Array Value} (h : StC C ph lg sm a b c d sl pt us al) {o : Nat} {v : Value} {ph' : Int} {lg' : Value} {a' b' c' d' : Int} {sl' : Bool} {pt' us' : Value} {al' : Int}
    (h0 : if o = 0 then v = .int .i64 ph' else ph' = ph) (h1 : if o = 1 then v = lg' else lg' = lg) (hs : o < 2 ∨ 226 ≤ o)
    (h2 : if o = 226 then v = .int .i64 a' else a' = a) (h3 : if o = 227 then v = .int .i64 b' else b' = b) (h4 : if o = 228 then v = .int .i64 c' else c' = c) (h5 : if o = 229 then v = .int .i64 d' else d' = d)
    (h6 : if o = 230 then v = .bool sl' else sl' = sl) (h7 : if o = 231 then v = pt' else pt' = pt) (h8 : if o = 232 then v = us' else us' = us) (h9 : if o = 233 then v = .int .i64 al' else al' = al) :
    StC (C.setIfInBounds o v) ph' lg' sm a' b' c' d' sl' pt' us' al' := by
  have key : ∀ k u u', C[k]? = some u → k < 234 → (if o = k then v = u' else u' = u) → (C.setIfInBounds o v)[k]? = some u' := by
    intro k u u' hk hlt hu
    by_cases e : o = k
    · subst e
      rw [if_pos rfl] at hu
      subst hu
      rw [Array.getElem?_setIfInBounds_self]
      simp [h.size, hlt]
    · rw [if_neg e] at hu
      subst hu
      rw [Array.getElem?_setIfInBounds_ne (by omega)]
      exact hk
  have wrp : ∀ {α : Type} (f : α → Value) (k : Nat) (x y : α), (if o = k then v = f x else x = y) → (if o = k then v = f x else f x = f y) := by
    intro α f k x y h
    by_cases e : o = k
    · rw [if_pos e] at h ⊢; exact h
    · rw [if_neg e] at h ⊢; rw [h]
  refine ⟨by simp [h.size], h.len, key 0 _ _ h.e0 (by omega) (wrp _ _ _ _ h0), key 1 _ _ h.e1 (by omega) h1, ?_, key 226 _ _ h.e226 (by omega) (wrp _ _ _ _ h2), key 227 _ _ h.e227 (by omega) (wrp _ _ _ _ h3), key 228 _ _ h.e228 (by omega) (wrp _ _ _ _ h4), key 229 _ _ h.e229 (by omega) (wrp _ _ _ _ h5), key 230 _ _ h.e230 (by omega) (wrp _ _ _ _ h6), key 231 _ _ h.e231 (by omega) h7, key 232 _ _ h.e232 (by omega) h8, key 233 _ _ h.e233 (by omega) (wrp _ _ _ _ h9)⟩
  intro i hi
  have hl := h.len
  rw [Array.getElem?_setIfInBounds_ne (by omega)]
  exact h.es i hi

theorem StB.set0 (h : StB w r t ph lg sm a b c d sl pt us al) (x : Int) : StB (w.setCell ⟨r, 0, none⟩ (.int .i64 x)) r t x lg sm a b c d sl pt us al := by
  obtain ⟨C, hC, h⟩ := h; exact ⟨_, heap_setCell hC _ _, h.put (by simp) (by simp) (by omega) (by simp) (by simp) (by simp) (by simp) (by simp) (by simp) (by simp) (by simp)⟩
theorem StB.set1 (h : StB w r t ph lg sm a b c d sl pt us al) (x : Value) : StB (w.setCell ⟨r, 1, none⟩ x) r t ph x sm a b c d sl pt us al := by
  obtain ⟨C, hC, h⟩ := h; exact ⟨_, heap_setCell hC _ _, h.put (by simp) (by simp) (by omega) (by simp) (by simp) (by simp) (by simp) (by simp) (by simp) (by simp) (by simp)⟩
theorem StB.set226 (h : StB w r t ph lg sm a b c d sl pt us al) (x : Int) : StB (w.setCell ⟨r, 226, none⟩ (.int .i64 x)) r t ph lg sm x b c d sl pt us al := by
  obtain ⟨C, hC, h⟩ := h; exact ⟨_, heap_setCell hC _ _, h.put (by simp) (by simp) (by omega) (by simp) (by simp) (by simp) (by simp) (by simp) (by simp) (by simp) (by simp)⟩
theorem StB.set227 (h : StB w r t ph lg sm a b c d sl pt us al) (x : Int) : StB (w.setCell ⟨r, 227, none⟩ (.int .i64 x)) r t ph lg sm a x c d sl pt us al := by
  obtain ⟨C, hC, h⟩ := h; exact ⟨_, heap_setCell hC _ _, h.put (by simp) (by simp) (by omega) (by simp) (by simp) (by simp) (by simp) (by simp) (by simp) (by simp) (by simp)⟩
theorem StB.set228 (h : StB w r t ph lg sm a b c d sl pt us al) (x : Int) : StB (w.setCell ⟨r, 228, none⟩ (.int .i64 x)) r t ph lg sm a b x d sl pt us al := by
  obtain ⟨C, hC, h⟩ := h; exact ⟨_, heap_setCell hC _ _, h.put (by simp) (by simp) (by omega) (by simp) (by simp) (by simp) (by simp) (by simp) (by simp) (by simp) (by simp)⟩
theorem StB.set229 (h : StB w r t ph lg sm a b c d sl pt us al) (x : Int) : StB (w.setCell ⟨r, 229, none⟩ (.int .i64 x)) r t ph lg sm a b c x sl pt us al := by
  obtain ⟨C, hC, h⟩ := h; exact ⟨_, heap_setCell hC _ _, h.put (by simp) (by simp) (by omega) (by simp) (by simp) (by simp) (by simp) (by simp) (by simp) (by simp) (by simp)⟩
theorem StB.set230 (h : StB w r t ph lg sm a b c d sl pt us al) (x : Bool) : StB (w.setCell ⟨r, 230, none⟩ (.bool x)) r t ph lg sm a b c d x pt us al := by
  obtain ⟨C, hC, h⟩ := h; exact ⟨_, heap_setCell hC _ _, h.put (by simp) (by simp) (by omega) (by simp) (by simp) (by simp) (by simp) (by simp) (by simp) (by simp) (by simp)⟩
theorem StB.set231 (h : StB w r t ph lg sm a b c d sl pt us al) (x : Value) : StB (w.setCell ⟨r, 231, none⟩ x) r t ph lg sm a b c d sl x us al := by
  obtain ⟨C, hC, h⟩ := h; exact ⟨_, heap_setCell hC _ _, h.put (by simp) (by simp) (by omega) (by simp) (by simp) (by simp) (by simp) (by simp) (by simp) (by simp) (by simp)⟩
theorem StB.set232 (h : StB w r t ph lg sm a b c d sl pt us al) (x : Value) : StB (w.setCell ⟨r, 232, none⟩ x) r t ph lg sm a b c d sl pt x al := by
  obtain ⟨C, hC, h⟩ := h; exact ⟨_, heap_setCell hC _ _, h.put (by simp) (by simp) (by omega) (by simp) (by simp) (by simp) (by simp) (by simp) (by simp) (by simp) (by simp)⟩
theorem StB.set233 (h : StB w r t ph lg sm a b c d sl pt us al) (x : Int) : StB (w.setCell ⟨r, 233, none⟩ (.int .i64 x)) r t ph lg sm a b c d sl pt us x := by
  obtain ⟨C, hC, h⟩ := h; exact ⟨_, heap_setCell hC _ _, h.put (by simp) (by simp) (by omega) (by simp) (by simp) (by simp) (by simp) (by simp) (by simp) (by simp) (by simp)⟩

/-- The whole of it, by value. -/
theorem StB.whole (h : StB w r t ph lg sm a b c d sl pt us al) : ∃ C, w.rangeAt r 0 C.toList ∧ C.toList.length = 234 ∧ StC C ph lg sm a b c d sl pt us al := by
  obtain ⟨C, hC, h⟩ := h
  refine ⟨C, fun j v hv => ?_, by simpa using h.size, h⟩
  rw [StB.cellC hC, Nat.zero_add]
  simpa using hv
/-- The i-th of its sums. -/
theorem StB.sum (h : StB w r t ph lg sm a b c d sl pt us al) (i : Nat) (hi : i < 7) : Rd w (· = r) (some ⟨r, 2 + 32 * i, none⟩) ((sm.drop (32 * i)).take 32) := by
  obtain ⟨C, hC, h⟩ := h
  refine Rd.of_at rfl fun j hj => ?_
  have hl := h.len
  rw [List.length_take, List.length_drop] at hj
  rw [StB.cellC hC, show 2 + 32 * i + j = 2 + (32 * i + j) by omega, h.es (32 * i + j) (by omega)]
  simp
/-- One of its sums is another one. -/
theorem StB.copy (h : StB w r t ph lg sm a b c d sl pt us al) (i : Nat) (hi : i < 7) (l : List UInt8) (hl : l.length ≤ 32) :
    StB (w.setCells r (2 + 32 * i) (l.map B8)) r t ph lg (sm.take (32 * i) ++ l ++ sm.drop (32 * i + l.length)) a b c d sl pt us al := by
  have key : ∀ (l : List UInt8) (k : Nat) (w : World) (sm : List UInt8), k + l.length ≤ 224 → StB w r t ph lg sm a b c d sl pt us al → StB (w.setCells r (2 + k) (l.map B8)) r t ph lg (sm.take k ++ l ++ sm.drop (k + l.length)) a b c d sl pt us al := by
    intro l
    induction l with
    | nil => intro k w sm _ h; simpa [World.setCells] using h
    | cons x l ih =>
      intro k w sm hk h
      simp only [List.map_cons, World.setCells, List.length_cons] at hk ⊢
      obtain ⟨C, hC, h⟩ := h
      have hlen := h.len
      have h1 : StB (w.setCell ⟨r, 2 + k, none⟩ (B8 x)) r t ph lg (sm.set k x) a b c d sl pt us al := by
        refine ⟨_, heap_setCell hC _ _, by simp [h.size], by simpa using h.len, ?_, ?_, ?_, ?_, ?_, ?_, ?_, ?_, ?_, ?_, ?_⟩
        case refine_3 =>
          intro i hi
          rw [List.length_set] at hi
          by_cases e : i = k
          · subst e
            rw [Array.getElem?_setIfInBounds_self]
            simp [h.size]
            omega
          · rw [Array.getElem?_setIfInBounds_ne (by omega), h.es i hi]
            rw [List.getElem_set_ne (by omega)]
        all_goals rw [Array.getElem?_setIfInBounds_ne (by omega)]
        · exact h.e0
        · exact h.e1
        · exact h.e226
        · exact h.e227
        · exact h.e228
        · exact h.e229
        · exact h.e230
        · exact h.e231
        · exact h.e232
        · exact h.e233
      have h2 := ih (k + 1) _ _ (by omega) h1
      rw [show 2 + (k + 1) = 2 + k + 1 by omega] at h2
      have e : (sm.set k x).take (k + 1) ++ l ++ (sm.set k x).drop (k + 1 + l.length) = sm.take k ++ x :: l ++ sm.drop (k + (l.length + 1)) := by
        have hk' : k < sm.length := by omega
        rw [List.set_eq_take_append_cons_drop, if_pos hk']
        have ht : (sm.take k).length = k := by rw [List.length_take]; omega
        rw [show k + 1 = (sm.take k).length + 1 by rw [ht], List.take_length_add_append]
        rw [show (sm.take k).length + 1 + l.length = (sm.take k).length + (1 + l.length) by omega, List.drop_length_add_append]
        simp only [List.take_succ_cons, List.take_zero, List.append_assoc, List.nil_append, List.cons_append, show 1 + l.length = l.length + 1 by omega, List.drop_succ_cons, List.drop_drop, ht]
        rw [show k + 1 + l.length = k + (l.length + 1) by omega]
      rw [e] at h2
      exact h2
  exact key l (32 * i) w sm (by omega) h
end
end Go.Proofs.Ytfilngbedlkhjaa
